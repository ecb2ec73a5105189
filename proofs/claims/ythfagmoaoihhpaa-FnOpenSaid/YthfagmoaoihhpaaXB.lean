/- Contracts of functions of the program, at this seat: what each call returns, by its arguments as data; each states its own conditions. -/
import Derived.Test.YthfagmoaoihhpaaXA
import Derived.Test.YthfagmoaoihhpaaW
namespace Go.DL
set_option maxRecDepth 100000
set_option maxHeartbeats 2000000
set_option linter.unusedSimpArgs false
set_option linter.unusedVariables false
open Go.RowKit Go.Proofs Go.Proofs.Ythfagmoaoihhpaa

/-! Choices that have all picks. -/
def conP (picks c : List PickV) : Prop := ∀ p ∈ picks, p ∈ c
def cons1 (picks : List PickV) (q : PickV) : Prop := ∀ p ∈ picks, p.option ≠ q.option ∨ p.value = q.value
def consP (picks row : List PickV) : Prop := ∀ q ∈ row, cons1 picks q
theorem filter_flat {α β : Type} {f : α → List β} {g : α → List β} {p : β → Bool} {r : α → Bool} : ∀ {l : List α}, (∀ x ∈ l, r x = true → (f x).filter p = g x) → (∀ x ∈ l, r x = false → (f x).filter p = []) → (l.flatMap f).filter p = (l.filter r).flatMap g
  | [], _, _ => rfl
  | x :: l, h1, h2 => by
    have ih := filter_flat (f := f) (g := g) (p := p) (r := r) (l := l) (fun y hy => h1 y (by simp [hy])) (fun y hy => h2 y (by simp [hy]))
    rw [List.flatMap_cons, List.filter_append, ih, List.filter_cons]
    cases hr : r x with
    | true => rw [h1 x (by simp) hr]; simp
    | false => rw [h2 x (by simp) hr]; simp
theorem rowsF_cons (picks : List PickV) (opts : List OptV) : ∀ n, n ≤ opts.length → rowsF picks (opts.take n) = (rowsN (opts.take n)).filter (fun r => tr (consP picks r))
  | 0, _ => by
    have : tr (consP picks []) = true := tr_t (fun q hq => by simp at hq)
    simp [rowsF, rowsN, this]
  | n + 1, hn => by
    have ho : opts[n]? = some (opts[n]'(by omega)) := List.getElem?_eq_getElem (by omega)
    generalize opts[n]'(by omega) = o at ho
    rw [rowsF_snoc ho, rowsN_snoc ho, rowsF_cons picks opts n (by omega)]
    have key : ∀ (row : List PickV) (v : ByteArray), consP picks (row ++ [(⟨o.name, v⟩ : PickV)]) ↔ consP picks row ∧ fitV picks o v := fun row v => by
      constructor
      · intro h
        exact ⟨fun q hq => h q (by simp [hq]), fun p hp => h ⟨o.name, v⟩ (by simp) p hp⟩
      · rintro ⟨h1, h2⟩ q hq
        rcases List.mem_append.1 hq with hq | hq
        · exact h1 q hq
        · rw [List.mem_singleton.1 hq]; exact fun p hp => h2 p hp
    refine (filter_flat (fun row _ hr => ?_) (fun row _ hr => ?_)).symm
    · have hr := tr_iff.1 hr
      unfold extR extF
      rw [List.filter_map]
      congr 1
      refine List.filter_congr fun v _ => ?_
      exact tr_congr ((key row v).trans ⟨fun h => h.2, fun h => ⟨hr, h⟩⟩)
    · have hr := tr_fiff.1 hr
      rw [List.filter_eq_nil_iff]
      intro c hc
      obtain ⟨v, _, rfl⟩ := List.mem_map.1 hc
      intro h
      exact hr ((key row v).1 (tr_iff.1 h)).1
theorem cons_con {m : ModelV} {picks : List PickV} (hp : isPartialP m picks) {r : List PickV} (hf : fullP m.options r) : consP picks r ↔ conP picks r := by
  constructor
  · intro h p hpm
    obtain ⟨i, hi⟩ := List.getElem?_of_mem hpm
    obtain ⟨⟨k, o, h1, h2, h3⟩, _⟩ := hp.2 i p hi
    have hkl := get_lt h2
    have hq : r[k]? = some (r[k]'(by rw [hf.1]; exact hkl)) := List.getElem?_eq_getElem _
    generalize r[k]'(by rw [hf.1]; exact hkl) = q at hq
    have hqo := hf.2 k o q h2 hq
    have hon : o.name = p.option := by
      rcases findP_cases (fun x : OptV => x.name = p.option) m.options with ⟨h4, _⟩ | ⟨j, x, h4, h5, h6, _⟩
      · unfold optIdx at h1; omega
      · have : j = k := by unfold optIdx at h1; omega
        subst this
        rw [h2] at h5; cases h5
        exact h6
    have e : p = q := by
      rcases h q (get_mem hq) p hpm with h7 | h7
      · exact absurd (by rw [hqo.1, hon]) h7
      · obtain ⟨a, b⟩ := p
        obtain ⟨a', b'⟩ := q
        simp only at h7 hqo hon
        rw [h7, ← hon, hqo.1]
    rw [e]; exact get_mem hq
  · intro h q hq p hpm
    by_cases e : p.option = q.option
    · right
      obtain ⟨i, hi⟩ := List.getElem?_of_mem (h p hpm)
      obtain ⟨j, hj⟩ := List.getElem?_of_mem hq
      obtain ⟨o, ho⟩ : ∃ o, m.options[i]? = some o := ⟨m.options[i]'(by rw [← hf.1]; exact get_lt hi), by simp⟩
      obtain ⟨o', ho'⟩ : ∃ o', m.options[j]? = some o' := ⟨m.options[j]'(by rw [← hf.1]; exact get_lt hj), by simp⟩
      have h1 := hf.2 i o p ho hi
      have h2 := hf.2 j o' q ho' hj
      have : i = j := names_uniq hp.1 ho ho' (by rw [← h1.1, ← h2.1]; exact e)
      subst this
      rw [hi] at hj; cases hj; rfl
    · exact .inl e
theorem allN_con {m : ModelV} {picks : List PickV} (hp : isPartialP m picks) : allN m picks = (choicesN m).filter (fun c => tr (conP picks c)) := by
  have h := rowsF_cons picks m.options m.options.length (Nat.le_refl _)
  rw [List.take_length] at h
  unfold allN choicesN
  rw [h, List.filter_filter, List.filter_filter]
  refine List.filter_congr fun r hr => ?_
  rw [tr_congr (cons_con hp (mem_rowsN.1 hr)), Bool.and_comm]
def compP (m : ModelV) (picks : List PickV) : Prop := isPartialP m picks ∧ allN m picks ≠ []
noncomputable def compV (m : ModelV) (picks : List PickV) : List PickV := ifP (isPartialP m picks) ((allN m picks).headD []) []
theorem head_at {α : Type} {l : List α} {f : α → Bool} {i : Nat} {x : α} (h : l[i]? = some x) (hn : (l.take i).filter f = []) (hx : f x = true) : l.filter f = x :: (l.drop (i + 1)).filter f := by
  have e : l = l.take i ++ x :: l.drop (i + 1) := by
    have hi := get_lt h
    rw [show x = l[i]'hi from (by rw [List.getElem?_eq_getElem hi] at h; exact (Option.some.inj h).symm), List.getElem_cons_drop, List.take_append_drop]
  conv => lhs; rw [e]
  rw [List.filter_append, hn, List.filter_cons, hx]; simp
theorem choices_len2 {m : ModelV} (h : isModelP m) : (choicesN m).length ≤ 256 := by
  have h1 := (rows_bound h m.options.length).1
  rw [List.take_length] at h1
  have h2 : 4 ^ m.options.length ≤ 256 := Nat.pow_le_pow_right (by omega) (show m.options.length ≤ 4 from h.1)
  exact Nat.le_trans (List.length_filter_le _ _) (Nat.le_trans h1 h2)
theorem choices_row {m : ModelV} (h : isModelP m) (hm : m.ok) : ∀ r ∈ choicesN m, r.length ≤ 4 ∧ ∀ p ∈ r, PickV.ok p := fun r hr => by
  have h1 := (List.mem_filter.1 hr).1
  have h2 := (rows_bound h m.options.length).2
  have h3 := rows_ok hm m.options.length
  rw [List.take_length] at h2 h3
  exact ⟨Nat.le_trans (h2 r h1) h.1, h3 r h1⟩
theorem allN_row {m : ModelV} {picks : List PickV} (hp : isPartialP m picks) (hm : m.ok) : ∀ r ∈ allN m picks, r.length ≤ 4 ∧ ∀ p ∈ r, PickV.ok p := fun r hr => by
  rw [allN_con hp] at hr
  exact choices_row hp.1 hm r (List.mem_filter.1 hr).1
theorem headD_ok {l : List (List PickV)} (h : ∀ r ∈ l, r.length ≤ 4 ∧ ∀ p ∈ r, PickV.ok p) : okL PickV.ok (l.headD []) ∧ (l.headD []).length ≤ 4 := by
  cases l with
  | nil => exact ⟨⟨by simp, by simp⟩, by simp⟩
  | cons r l => have := h r (by simp); exact ⟨⟨by simp; omega, this.2⟩, this.1⟩
theorem compV_ok (m : ModelV) (hm : m.ok) (picks : List PickV) (_ : okL PickV.ok picks) : okL PickV.ok (compV m picks) ∧ (compV m picks).length ≤ 4 := by
  by_cases h : isPartialP m picks
  · rw [show compV m picks = _ from ifP_t h]; exact headD_ok (allN_row h hm)
  · rw [show compV m picks = _ from ifP_f h]; exact ⟨⟨by simp, by simp⟩, by simp⟩
theorem resBack {σ : St} {k j m : Nat} (l : List (List PickV)) {i : Nat} {x : List PickV} (hx : l[i]? = some x) {K : List D → List Nat → Prop} (hB : σ.ab.c j = some ⟨42, 2, x.map PickV.dat⟩) (hsh : σ.ab.sh j = false) (hj : k ≠ j) (hK : K (l.map rowT) [j]) :
    ResK σ k ((l.take i).map rowT ++ .ref j m :: (l.drop (i + 1)).map rowT) K := by
  refine ResK_intro (U := [j]) (xs' := l.map rowT) ?_ (by simp) (by simpa using hj) hK
  have hi := get_lt hx
  have e : l = l.take i ++ x :: l.drop (i + 1) := by
    rw [show x = l[i]'hi from (by rw [List.getElem?_eq_getElem hi] at hx; exact (Option.some.inj hx).symm), List.getElem_cons_drop, List.take_append_drop]
  have e2 : l.map rowT = (l.take i).map rowT ++ rowT x :: (l.drop (i + 1)).map rowT := by
    conv => lhs; rw [e]
    rw [List.map_append, List.map_cons]
  rw [e2]
  exact RVL.app (RVL.same (pureL_map row_pure _).noRef) (RVL.cons (x := .ref j m) (x' := rowT x) rfl (RVs.one (.refc j m ⟨42, 2, x.map PickV.dat⟩ hB hsh)) (RVL.same (pureL_map row_pure _).noRef))

theorem c_impl_contains (c : List PickV) (hc : okL PickV.ok c) (picks : List PickV) (hp : okL PickV.ok picks) : Contract Try.prog 20 [.d (lD PickV.dat c), .d (lD PickV.dat picks)] (.one (.d (bD (tr (conP picks c))))) := by
  refine contract_by hma hTa Try.func20 (by kernel_rfl) (by kernel_rfl) ?_
  have hc1 := hc.1
  have hp1 := hp.1
  have e1 : (List.map PickV.dat c).length = c.length := List.length_map _
  have e2 : (List.map PickV.dat picks).length = picks.length := List.length_map _
  conv => whnf
  refine LoopK_intro hma hTa [(0, .pl), (10, .pl), (11, .pl), (12, .pl)] (fun i : Nat => ⟨[(0, .d (lD PickV.dat c)), (10, .d (lD PickV.dat picks)), (11, .d (iD (picks.map PickV.dat).length)), (12, .d (iD i))], [], []⟩) (fun i => i ≤ picks.length ∧ conP (picks.take i) c) (fun i => picks.length - i) (by kernel_rfl) ?_ ?_
  · conv => whnf
    exact ⟨0, ⟨by omega, fun p hp => by simp at hp⟩, rfl⟩
  · intro i ⟨hi, hall⟩
    conv => whnf
    refine brLt (fun h => ?_) (fun h => ?_) <;> conv => whnf
    rotate_left
    · rw [List.take_of_length_le (by omega)] at hall
      exact bT hall
    refine IxK_mapLt _ rfl (by omega) (fun p hpi => ?_)
    conv => whnf
    have hil := get_lt hpi
    refine LoopK2R [] hma hTa [(0, .pl), (10, .pl), (11, .pl), (12, .pl), (6, .key 6), (7, .pl), (16, .pl), (17, .pl), (18, .pl)] (fun (j : Nat) (b : Bool) => ⟨[(0, .d (lD PickV.dat c)), (10, .d (lD PickV.dat picks)), (11, .d (iD (picks.map PickV.dat).length)), (12, .d (iD i)), (6, .ae 6 0), (7, .d (bD b)), (16, .d (lD PickV.dat c)), (17, .d (iD (c.map PickV.dat).length)), (18, .d (iD j))], [(6, some ⟨42, 2, [p.dat]⟩)], []⟩) (fun j b => j ≤ c.length ∧ b = tr (p ∈ c.take j)) (fun j _ => c.length - j) (by kernel_rfl) ?_ ?_
    · conv => whnf
      exact ⟨0, false, ⟨by omega, (tr_f (by simp)).symm⟩, rfl⟩
    · intro j b ⟨hj, hb⟩
      conv => whnf
      refine brLt (fun h2 => ?_) (fun h2 => ?_) <;> conv => whnf
      · refine IxK_mapLt _ rfl (by omega) (fun q hq => ?_)
        conv => whnf
        have hjl := get_lt hq
        have hmem : p ∈ c.take (j + 1) ↔ p ∈ c.take j ∨ p = q := by rw [take_snoc hq]; simp
        refine brB (fun h5 => ?_) (fun h5 => ?_) <;> conv => whnf
        · have h6 : p ∈ c.take j := tr_iff.1 (by rw [← hb, h5])
          refine WrK_i64 (by omega) (by omega) ?_
          conv => whnf
          exact ⟨(j + 1, true), ⟨hjl, (tr_t (hmem.2 (.inl h6))).symm⟩, Nat.sub_lt_sub_left hjl (Nat.lt_succ_self j), rfl⟩
        · have h6 : ¬ p ∈ c.take j := tr_fiff.1 (by rw [← hb, h5])
          refine WrK_i64 (by omega) (by omega) ?_
          conv => whnf
          refine ⟨(j + 1, _), ⟨hjl, ?_⟩, Nat.sub_lt_sub_left hjl (Nat.lt_succ_self j), rfl⟩
          exact tr_bool (pick_eq.trans (hmem.trans ⟨fun h => h.resolve_left h6, .inr⟩).symm)
      · rw [List.take_of_length_le (by omega)] at hb
        refine brNB (fun h5 => ?_) (fun h5 => ?_) <;> conv => whnf
        · refine WrK_i64 (by omega) (by omega) ?_
          conv => whnf
          refine ⟨i + 1, ⟨hil, fun x hx => ?_⟩, Nat.sub_lt_sub_left hil (Nat.lt_succ_self i), rfl⟩
          rw [take_snoc hpi] at hx
          rcases List.mem_append.1 hx with hx | hx
          · exact hall x hx
          · rw [List.mem_singleton.1 hx]; exact tr_iff.1 (by rw [← hb, h5])
        · exact bF (fun h => tr_fiff.1 (by rw [← hb, h5] : tr (p ∈ c) = false) (h p (get_mem hpi)))

theorem c_impl_CompleteChoiceV (m : ModelV) (hm : m.ok) (picks : List PickV) (hp : okL PickV.ok picks) : Contract Try.prog 8 [.d m.dat, .d (lD PickV.dat picks)] (.tup (.fr ⟨42, 2, (compV m picks).map PickV.dat⟩) [bD (tr (compP m picks))]) := by
  refine contract_byR [600000 + 19, 700000 + 28, 600000 + 20] hma hTa Try.func8 (by kernel_rfl) (by kernel_rfl) ?_
  conv => whnf
  refine CallK_tr (c_impl_IsPartial _ hm _ hp) (fun hpa => ?_) (fun hpa => ?_) <;> conv => whnf
  rotate_left
  · rw [show compV m picks = [] from ifP_f hpa, tr_f (fun h : compP m picks => hpa h.1)]
    exact ⟨⟨rfl, by omega⟩, rfl, trivial⟩
  refine CallK_intro (c_impl_ChoicesOfT m hm) ?_
  conv => whnf
  refine NeedK_intro (pureL_map row_pure _).clean ?_
  conv => whnf
  rw [show compV m picks = _ from ifP_t hpa, tr_congr (show compP m picks ↔ allN m picks ≠ [] from ⟨fun h => h.2, fun h => ⟨hpa, h⟩⟩), allN_con hpa, show choicesV m = choicesN m from ifP_t hpa.1]
  have hrow := choices_row hpa.1 hm
  have hlen := choices_len2 hpa.1
  generalize choicesN m = l at hrow hlen ⊢
  have e1 : (List.map rowT l).length = l.length := List.length_map _
  refine LoopK_introR [600000 + 19, 700000 + 28, 600000 + 20] hma hTa [(1, .pl), (13, .tree 13), (14, .pl), (15, .pl)] (fun i : Nat => ⟨[(1, .d (lD PickV.dat picks)), (13, .fv 13 (l.map rowT).length), (1000000 + 13, .fa ⟨28, 1, l.map rowT⟩), (14, .d (iD (l.map rowT).length)), (15, .d (iD i))], [(13, none)], []⟩) (fun i => i ≤ l.length ∧ (l.take i).filter (fun c => tr (conP picks c)) = []) (fun i => l.length - i) (by kernel_rfl) ?_ ?_
  · conv => whnf
    refine ResK_same (pureL_map row_pure _).noRef ?_
    conv => whnf
    refine NoRefK_intro (pureL_map row_pure _).noRef ?_
    conv => whnf
    exact ⟨0, ⟨by omega, by simp⟩, rfl⟩
  · intro i ⟨hi, hno⟩
    conv => whnf
    refine brLt (fun h => ?_) (fun h => ?_) <;> conv => whnf
    rotate_left
    · rw [List.take_of_length_le (by omega)] at hno
      rw [hno, tr_f (by simp)]
      exact ⟨⟨rfl, by omega⟩, rfl, trivial⟩
    have hil : i < l.length := by omega
    have hx : l[i]? = some l[i] := List.getElem?_eq_getElem hil
    have hd : l.map rowT = (l.take i).map rowT ++ rowT l[i] :: (l.drop (i + 1)).map rowT := by
      have e : l = l.take i ++ l[i] :: l.drop (i + 1) := by rw [List.getElem_cons_drop, List.take_append_drop]
      conv => lhs; rw [e]
      rw [List.map_append, List.map_cons]
    have hpl : ((l.take i).map rowT).length = i := by rw [List.length_map, List.length_take]; omega
    have hll : ((l.take i).map rowT ++ rowT l[i] :: (l.drop (i + 1)).map rowT).length = l.length := by rw [← hd, e1]
    rw [hd]
    generalize l[i] = x at hx hd hll
    have hxr := hrow x (get_mem hx)
    refine IxA_intro i rfl (by omega) ?_
    conv => whnf
    refine getK_intro (get_mid hpl) ?_
    conv => whnf
    refine NeedK_intro (flat_plain (flatL_map pick_flatD _)) ?_
    conv => whnf
    refine setK_intro (by rw [hll]; exact hil) (set_mid hpl).symm ?_
    conv => whnf
    refine takeK_full rfl ?_
    conv => whnf
    refine CallK_tr (c_impl_contains x ⟨by omega, hxr.2⟩ picks hp) (fun h5 => ?_) (fun h5 => ?_) <;> conv => whnf
    · rw [head_at hx hno (tr_t h5)]
      rw [tr_t (p := x :: (l.drop (i + 1)).filter (fun c => tr (conP picks c)) ≠ []) (by simp)]
      exact ⟨⟨rfl, rfl, rfl, rfl, flatL_map pick_flatD _⟩, rfl, trivial⟩
    · refine WrK_i64 (by omega) (by omega) ?_
      conv => whnf
      refine resBack l hx rfl rfl (by decide) ?_
      conv => whnf
      refine NoRefK_intro (pureL_map row_pure _).noRef ?_
      conv => whnf
      refine ⟨i + 1, ⟨hil, ?_⟩, Nat.sub_lt_sub_left hil (Nat.lt_succ_self i), by dsimp only; rw [← hd]; rfl⟩
      rw [filter_n (f := fun c => tr (conP picks c)) hx (tr_f h5)]; exact hno

theorem c_spec_CompleteChoiceV (m : ModelV) (hm : m.ok) (picks : List PickV) (hp : okL PickV.ok picks) : Contract Try.prog 10 [.d m.dat, .d (lD PickV.dat picks)] (.tup (.d (lD PickV.dat (compV m picks))) [bD (tr (compP m picks))]) := by
  refine contract_by hma hTa Try.func10 (by kernel_rfl) (by kernel_rfl) ?_
  conv => whnf
  refine CallK_tr (c_spec_IsPartial _ hm _ hp) (fun hpa => ?_) (fun hpa => ?_) <;> conv => whnf
  rotate_left
  · rw [show compV m picks = [] from ifP_f hpa, tr_f (fun h : compP m picks => hpa h.1)]
    exact ⟨rfl, rfl, trivial⟩
  refine CallK_intro (c_spec_l7All m hm hpa.1 picks hp) ?_
  conv => whnf
  rw [show compV m picks = _ from ifP_t hpa, tr_congr (show compP m picks ↔ allN m picks ≠ [] from ⟨fun h => h.2, fun h => ⟨hpa, h⟩⟩)]
  generalize allN m picks = l
  cases l with
  | nil =>
    refine brEq (fun h => ?_) (fun h => absurd rfl h)
    conv => whnf
    rw [tr_f (by simp)]
    exact ⟨rfl, rfl, trivial⟩
  | cons x l =>
    refine brEq (fun h => by simp at h; omega) (fun h => ?_)
    conv => whnf
    refine IxA_intro 0 rfl (by simp) ?_
    conv => whnf
    rw [tr_t (p := x :: l ≠ []) (by simp)]
    exact ⟨rfl, rfl, trivial⟩

end Go.DL
