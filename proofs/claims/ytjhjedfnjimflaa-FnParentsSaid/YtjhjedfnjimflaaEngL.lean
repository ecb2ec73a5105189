/- Part of an evaluator of Go code on plain data, proved sound for the model: lemmas alone, for every program; each states its own conditions. -/
import Derived.Test.YtjhjedfnjimflaaEngK
namespace Go.DL
open Go.RowKit
section
variable {P : Program} {T : Tys} {R : List Nat} {ops : Array Oper}

/-- Operation number i comes up in state τ. -/
def GStep (P : Program) (T : Tys) (R : List Nat) (ops : Array Oper) (i : Nat) (τ τ' : Ab) : Prop := ∃ o e, ops[i]? = some o ∧ GEff P T R ops o τ e ∧ τ' = τ.eff o.dst e

def dAny (P : Program) (T : Tys) (R : List Nat) (ops : Array Oper) (Q : Ab → Prop) : Nat → Array Bool → Ab → Prop
  | 0, listed, τ => Region.ready .any ops listed = [] ∧ Q τ
  | fuel + 1, listed, τ => (Region.ready .any ops listed = [] → Q τ) ∧ ∀ i ∈ Region.ready .any ops listed, ∃ τ', GStep P T R ops i τ τ' ∧ dAny P T R ops Q fuel (listed.setIfInBounds i true) τ'

section
variable {X : Env} {w0 : World} {M0 : Mem} {n : Nat} {τ τ' : Ab} {ac : Act} {w : World} {Q : Exit → Act → World → Prop} {M : Mem} {γ : Nat → Value}

theorem yielded_of (h : SimW X w0 M0 n τ ac w M γ) {j t : Nat} (ht : (ops[j]?).bind (·.dst) = some t) :
    (∀ b, τ.s t = .d (.sc (.bool b)) → yielded ops ac.tmps j = some b) ∧ (τ.s t = .un → yielded ops ac.tmps j = none) := by
  have hs := h.slots t
  constructor
  · intro b hb
    rw [hb] at hs
    have hv := rep_sc hs
    unfold yielded
    rw [ht]
    simp only [Option.bind_some]
    cases hh : ac.tmps[t]? with
    | none => simp [hh] at hv; cases hv
    | some v => simp [hh] at hv; rw [hv]
  · intro hb
    rw [hb] at hs
    have hv : ac.tmps.getD t undef = undef := hs
    unfold yielded
    rw [ht]
    simp only [Option.bind_some]
    cases hh : ac.tmps[t]? with
    | none => rfl
    | some v => simp [hh] at hv; rw [hv]; rfl

theorem GStep.sound (hT : TOK P T) (hd : ∀ (i : Nat) (o : Oper), ops[i]? = some o → ∀ d, o.dst = some d → d < n) {i : Nat} (hg : GStep P T R ops i τ τ') (h : Sim X w0 M0 n τ ac w) {K : Act → World → Prop}
    (hK : ∀ ac' w', Sim X w0 M0 n τ' ac' w' → K ac' w') : wpOp P ops Q i K ac w := by
  obtain ⟨o, e, ho, hge, rfl⟩ := hg
  obtain ⟨M, γ, hs⟩ := h
  have wanted : Wanted ops τ o → Region.wanted o (yielded ops ac.tmps) = true := fun hw => by
    unfold Region.wanted
    rcases hw with hw | ⟨j, want, t, h1, h2, h3⟩
    · rw [hw]
    · rw [h1]
      simp only [(yielded_of hs h2).1 want h3, beq_self_eq_true]
  unfold wpOp
  rw [ho]
  simp only
  cases hge with
  | skip j t want hgd ht hst =>
    have : Region.wanted o (yielded ops ac.tmps) = false := by
      unfold Region.wanted
      rw [hgd]
      rcases hst with hst | hst
      · simp only [(yielded_of hs ht).2 hst]; rfl
      · simp only [(yielded_of hs ht).1 _ hst]
        cases want <;> rfl
    rw [this]
    simp only [Bool.false_eq_true, if_false]
    exact hK _ _ ⟨M, γ, hs.put (hd i o ho) rfl⟩
  | tame _ hg h =>
    rw [wanted hg]
    simp only [if_true]
    exact .inl (Oper.wp_mono hK (h.sound hT (hd i o ho) hs Q))
  | wild _ hg h =>
    rw [wanted hg]
    simp only [if_true]
    exact .inl (Oper.wp_mono hK (h.sound hT (hd i o ho) hs Q))

theorem wpAny_of_dAny (hT : TOK P T) (hd : ∀ (i : Nat) (o : Oper), ops[i]? = some o → ∀ d, o.dst = some d → d < n) {Qd : Ab → Prop} (hQ : ∀ τ ac w, Qd τ → Sim X w0 M0 n τ ac w → Q .normal ac w) :
    ∀ (fuel : Nat) (listed : Array Bool) (τ : Ab) (ac : Act) (w : World), dAny P T R ops Qd fuel listed τ → Sim X w0 M0 n τ ac w → wpAny P .any ops Q fuel listed ac w
  | 0, _, _, _, _, h, hs => ⟨h.1, hQ _ _ _ h.2 hs⟩
  | fuel + 1, listed, τ, ac, w, h, hs => ⟨fun h0 => hQ _ _ _ (h.1 h0) hs, fun i hi => by
      obtain ⟨τ', h1, h2⟩ := h.2 i hi
      exact h1.sound hT hd hs fun ac' w' hs' => wpAny_of_dAny hT hd hQ fuel _ τ' ac' w' h2 hs'⟩
end

/-! ### Who waits for whom -/
inductive Anc (ops : Array Oper) : Nat → Nat → Prop
  | one {j : Nat} {o : Oper} {e : Edge} (ho : ops[j]? = some o) (he : e ∈ o.after) (hb : Region.binds .any e = true) : Anc ops j e.on
  | more {j i : Nat} {o : Oper} {e : Edge} (ho : ops[j]? = some o) (he : e ∈ o.after) (hb : Region.binds .any e = true) (h : Anc ops e.on i) : Anc ops j i

def Closed (ops : Array Oper) (listed : Array Bool) : Prop :=
  ∀ (j : Nat) (o : Oper), listed.getD j false = true → ops[j]? = some o → ∀ e ∈ o.after, Region.binds .any e = true → listed.getD e.on false = true

theorem Closed.anc {listed : Array Bool} (hc : Closed ops listed) {j i : Nat} (ha : Anc ops j i) (hj : listed.getD j false = true) : listed.getD i false = true := by
  induction ha with
  | one ho he hb => exact hc _ _ hj ho _ he hb
  | more ho he hb _ ih => exact ih (hc _ _ hj ho _ he hb)

theorem ready_anc {listed : Array Bool} (hc : Closed ops listed) {j i : Nat} (hj : j ∈ Region.ready .any ops listed) (ha : Anc ops j i) : listed.getD i false = true := by
  obtain ⟨_, o, ho, hall⟩ := mem_ready.1 hj
  cases ha with
  | one ho' he hb => rw [ho] at ho'; cases ho'; exact hall _ he hb
  | more ho' he hb h => rw [ho] at ho'; cases ho'; exact hc.anc h (hall _ he hb)

theorem Closed.step {listed : Array Bool} (hc : Closed ops listed) {j : Nat} (hj : j ∈ Region.ready .any ops listed) : Closed ops (listed.setIfInBounds j true) := by
  intro k o hk ho e he hb
  by_cases hkj : j = k
  · subst hkj
    obtain ⟨_, o', ho', hall⟩ := mem_ready.1 hj
    rw [ho] at ho'; cases ho'
    exact getD_set_true (hall e he hb)
  · rw [getD_set_ne false hkj] at hk
    exact getD_set_true (hc k o hk ho e he hb)

theorem unlisted_iff {listed : Array Bool} {i : Nat} (h : listed.getD i true = false) : listed.getD i false = false := by
  rcases Nat.lt_or_ge i listed.size with h' | h'
  · simpa [h'] using h
  · simp [Array.getElem?_eq_none h'] at h

/-- An operation that may come up now may be taken first. -/
theorem dAny_first {Q : Ab → Prop} {i : Nat} {oi : Oper} {ei : Ef} (hi : ops[i]? = some oi) :
    ∀ (fuel : Nat) (listed : Array Bool) (τ : Ab), Closed ops listed → WF τ →
      (∀ (j : Nat) (oj : Oper), ops[j]? = some oj → j ≠ i → listed.getD j true = false → ¬ Anc ops j i → oi.apart ops oj = true ∧ compat R oi.op oj.op = true) →
      i ∈ Region.ready .any ops listed → GEff P T R ops oi τ ei →
      dAny P T R ops Q fuel (listed.setIfInBounds i true) (τ.eff oi.dst ei) → dAny P T R ops Q (fuel + 1) listed τ := by
  intro fuel
  induction fuel with
  | zero =>
    intro listed τ _ _ _ hr hy H
    refine ⟨fun h => (by rw [h] at hr; cases hr), fun j hj => ?_⟩
    by_cases hji : j = i
    · subst hji; exact ⟨_, ⟨oi, ei, hi, hy, rfl⟩, H⟩
    · have := ready_mono hj hji
      rw [H.1] at this
      cases this
  | succ fuel ih =>
    intro listed τ hcl hwf hfree hr hy H
    refine ⟨fun h => (by rw [h] at hr; cases hr), fun j hj => ?_⟩
    by_cases hji : j = i
    · subst hji; exact ⟨_, ⟨oi, ei, hi, hy, rfl⟩, H⟩
    · obtain ⟨τ2, ⟨oj, ej, hoj, hgj, rfl⟩, h1⟩ := H.2 j (ready_mono hj hji)
      obtain ⟨hjun, oj', hoj', hall⟩ := mem_ready.1 hj
      rw [hoj] at hoj'; cases hoj'
      have hnot : ¬ Anc ops j i := fun ha => by
        have h1 := ready_anc hcl hj ha
        have h0 := unlisted_iff (mem_ready.1 hr).1
        rw [h0] at h1; cases h1
      obtain ⟨hap, hcp⟩ := hfree j oj hoj hji hjun hnot
      obtain ⟨c1, c2, c3⟩ := commute hap hcp hwf hy hgj
      refine ⟨_, ⟨oj, ej, hoj, c1, rfl⟩, ?_⟩
      refine ih (listed.setIfInBounds j true) (τ.eff oj.dst ej) (hcl.step hj) (eff_wf hwf c1) (fun k ok hk hki hun hno => ?_) (ready_mono hr (Ne.symm hji)) c2 ?_
      · refine hfree k ok hk hki ?_ hno
        by_cases hjk : j = k
        · subst hjk; exact hjun
        · rw [getD_set_ne true hjk] at hun; exact hun
      · rw [← c3, Array.setIfInBounds_comm _ _ hji]
        exact h1

/-! ### The Bool over a region -/
def ancList (l : List Oper) : List (List Nat) :=
  l.foldl (fun acc o => acc ++ [((o.after.toList.filter (Region.binds .any)).flatMap fun e => e.on :: acc.getD e.on []).eraseDups]) []

def clsB (R : List Nat) (ops : List Oper) : Bool :=
  if ops.all (fun o => cls R o.op != 2) then true else
  let an := ancList ops
  (List.range ops.length).all fun j => (List.range j).all fun i =>
    match ops[i]?, ops[j]? with
    | some oi, some oj => compat R oi.op oj.op || (an.getD j []).contains i
    | _, _ => true

theorem ancList_aux (all : List Oper) : ∀ (l : List Oper) (acc : List (List Nat)), (∀ k, l[k]? = all[acc.length + k]?) → (∀ j, ∀ x ∈ acc.getD j [], Anc all.toArray j x) →
    ∀ j, ∀ x ∈ (l.foldl (fun acc o => acc ++ [((o.after.toList.filter (Region.binds .any)).flatMap fun e => e.on :: acc.getD e.on []).eraseDups]) acc).getD j [], Anc all.toArray j x
  | [], acc, _, h => h
  | o :: l, acc, hl, h => by
    simp only [List.foldl_cons]
    refine ancList_aux all l _ (fun k => ?_) (fun j x hx => ?_)
    · have := hl (k + 1)
      simp only [List.getElem?_cons_succ] at this
      rw [this]
      congr 1
      simp
      omega
    · have ho : all.toArray[acc.length]? = some o := by have := hl 0; simpa using this.symm
      by_cases hj : j < acc.length
      · rw [List.getD_eq_getElem?_getD, List.getElem?_append_left hj] at hx
        exact h j x (by rw [List.getD_eq_getElem?_getD]; exact hx)
      · by_cases hj2 : j = acc.length
        · subst hj2
          rw [List.getD_eq_getElem?_getD, List.getElem?_append_right (Nat.le_refl _)] at hx
          simp only [Nat.sub_self, List.getElem?_cons_zero, Option.getD_some, List.mem_eraseDups, List.mem_flatMap, List.mem_filter, List.mem_cons] at hx
          obtain ⟨e, ⟨he, hb⟩, hx⟩ := hx
          have he' : e ∈ o.after := Array.mem_def.2 he
          rcases hx with rfl | hx
          · exact .one ho he' hb
          · exact .more ho he' hb (h e.on x hx)
        · rw [List.getD_eq_getElem?_getD, List.getElem?_eq_none (by simp; omega)] at hx
          simp at hx

theorem clsB_spec {ops : List Oper} (h : clsB R ops = true) {i j : Nat} (hij : i < j) {oi oj : Oper} (hi : ops[i]? = some oi) (hj : ops[j]? = some oj) (hn : ¬ Anc ops.toArray j i) : compat R oi.op oj.op = true := by
  unfold clsB at h
  split at h
  · rename_i hall
    rw [List.all_eq_true] at hall
    have h1 := hall oi (List.mem_of_getElem? hi)
    have h2 := hall oj (List.mem_of_getElem? hj)
    have c : ∀ op, cls R op = 0 ∨ cls R op = 1 ∨ cls R op = 2 := fun op => by unfold cls; split <;> first | (simp; done) | (split <;> simp)
    simp only [bne_iff_ne, ne_eq] at h1 h2
    simp only [compat, Bool.or_eq_true, Bool.and_eq_true, beq_iff_eq]
    have := c oi.op
    have := c oj.op
    omega
  · simp only [List.all_eq_true, List.mem_range] at h
    have hjl := (List.getElem?_eq_some_iff.1 hj).1
    have := h j hjl i hij
    simp only [hi, hj, Bool.or_eq_true] at this
    rcases this with h1 | h1
    · exact h1
    · exfalso
      exact hn (ancList_aux ops ops [] (fun k => by simp) (fun j x hx => by simp at hx) j i (by simpa [ancList] using h1))

/-- The region in the order of the text. -/
def dLex (P : Program) (T : Tys) (R : List Nat) (ops : Array Oper) (Q : Ab → Prop) : List Oper → Ab → Prop
  | [], τ => Q τ
  | o :: rest, τ => ∃ e, GEff P T R ops o τ e ∧ dLex P T R ops Q rest (τ.eff o.dst e)

theorem closed_lex {ops : Array Oper} : ∀ (fuel k : Nat) (listed : Array Bool), Region.lexFrom .any ops fuel k listed = true → True := fun _ _ _ _ => trivial

theorem dAny_lex {Q : Ab → Prop} {all : List Oper} (hc : clsB R all = true) : ∀ (l : List Oper) (k : Nat) (listed : Array Bool) (τ : Ab), (∀ j, l[j]? = all[k + j]?) → (∀ j, j < k → listed.getD j true = true) → Closed all.toArray listed → WF τ →
    Region.lexFrom .any all.toArray l.length k listed = true → dLex P T R all.toArray Q l τ → dAny P T R all.toArray Q l.length listed τ
  | [], _, _, _, _, _, _, _, hB, h => ⟨by simpa [Region.lexFrom] using hB, h⟩
  | o :: l, k, listed, τ, hl, hlt, hcl, hwf, hB, h => by
    have h0 : all.toArray[k]? = some o := by have := hl 0; simpa using this.symm
    simp only [List.length_cons, Region.lexFrom, Bool.and_eq_true] at hB
    obtain ⟨⟨hr, hf⟩, hB'⟩ := hB
    obtain ⟨e, hg, hK⟩ := h
    have hr' : k ∈ Region.ready .any all.toArray listed := by simpa using hr
    refine dAny_first h0 l.length listed τ hcl hwf (fun j oj hj hne hun hno => ?_) hr' hg ?_
    · have hap := Region.free_spec h0 hf j oj hj hne hun (fun e he hb heq => hno (heq ▸ .one hj he hb))
      have hkj : k < j := by
        rcases Nat.lt_or_ge j k with h1 | h1
        · rw [hlt j h1] at hun; cases hun
        · omega
      exact ⟨hap, clsB_spec hc hkj (by simpa using h0) (by simpa using hj) hno⟩
    · refine dAny_lex hc l (k + 1) _ _ (fun j => by have := hl (j + 1); simpa [Nat.add_assoc, Nat.add_comm 1 j] using this) (fun j hj => ?_) (hcl.step hr') (eff_wf hwf hg) hB' hK
      by_cases hjk : k = j
      · subst hjk
        by_cases hs : k < listed.size
        · simp [hs]
        · simp [Array.getElem?_eq_none (show (listed.setIfInBounds k true).size ≤ k by simpa using hs)]
      · rw [getD_set_ne true hjk]; exact hlt j (by omega)

/-! ### The same, where what the operands refer to is listed -/
def Okk (Ks : Nat → List Nat) (j : Nat) (o : Oper) (τ : Ab) : Prop := ∀ k, Refs o τ k → k ∈ Ks j
def dAnyK (P : Program) (T : Tys) (R : List Nat) (ops : Array Oper) (Ks : Nat → List Nat) (Q : Ab → Prop) : Nat → Array Bool → Ab → Prop
  | 0, listed, τ => Region.ready .any ops listed = [] ∧ Q τ
  | fuel + 1, listed, τ => (Region.ready .any ops listed = [] → Q τ) ∧ ∀ i ∈ Region.ready .any ops listed, ∃ o e, ops[i]? = some o ∧ GEff P T R ops o τ e ∧ Okk Ks i o τ ∧ dAnyK P T R ops Ks Q fuel (listed.setIfInBounds i true) (τ.eff o.dst e)

theorem dAny_of_K {Ks : Nat → List Nat} {Q : Ab → Prop} : ∀ (fuel : Nat) (listed : Array Bool) (τ : Ab), dAnyK P T R ops Ks Q fuel listed τ → dAny P T R ops Q fuel listed τ
  | 0, _, _, h => h
  | fuel + 1, listed, τ, h => ⟨h.1, fun i hi => by
      obtain ⟨o, e, h1, h2, _, h3⟩ := h.2 i hi
      exact ⟨_, ⟨o, e, h1, h2, rfl⟩, dAny_of_K fuel _ _ h3⟩⟩

theorem refs_same {o : Oper} {τ τ' : Ab} {dst : Option Nat} (hs : ∀ t, dst ≠ some t → τ'.s t = τ.s t) (h : ∀ d, dst = some d → d ∉ o.looksAt ops) (k : Nat) : Refs o τ' k ↔ Refs o τ k := by
  have hv := val_same hs h
  constructor
  · rintro ⟨x, hx, hk⟩; exact ⟨x, hx, by rw [← hv x hx]; exact hk⟩
  · rintro ⟨x, hx, hk⟩; exact ⟨x, hx, by rw [hv x hx]; exact hk⟩

def disj (a b : List Nat) : Bool := a.all fun x => !(b.contains x)
theorem disj_spec {a b : List Nat} (h : disj a b = true) : ∀ k, k ∈ a → k ∉ b := fun k ha hb => by
  have := List.all_eq_true.1 h k ha
  simp at this
  exact this hb

theorem dAnyK_first {Ks : Nat → List Nat} {Q : Ab → Prop} {i : Nat} {oi : Oper} {ei : Ef} (hi : ops[i]? = some oi) :
    ∀ (fuel : Nat) (listed : Array Bool) (τ : Ab), Closed ops listed → WF τ →
      (∀ (j : Nat) (oj : Oper), ops[j]? = some oj → j ≠ i → listed.getD j true = false → ¬ Anc ops j i → oi.apart ops oj = true ∧ (compat R oi.op oj.op = true ∨ disj (Ks i) (Ks j) = true)) →
      i ∈ Region.ready .any ops listed → GEff P T R ops oi τ ei → Okk Ks i oi τ →
      dAnyK P T R ops Ks Q fuel (listed.setIfInBounds i true) (τ.eff oi.dst ei) → dAnyK P T R ops Ks Q (fuel + 1) listed τ := by
  intro fuel
  induction fuel with
  | zero =>
    intro listed τ _ _ _ hr hy hok H
    refine ⟨fun h => (by rw [h] at hr; cases hr), fun j hj => ?_⟩
    by_cases hji : j = i
    · subst hji; exact ⟨oi, ei, hi, hy, hok, H⟩
    · have := ready_mono hj hji
      rw [H.1] at this
      cases this
  | succ fuel ih =>
    intro listed τ hcl hwf hfree hr hy hok H
    refine ⟨fun h => (by rw [h] at hr; cases hr), fun j hj => ?_⟩
    by_cases hji : j = i
    · subst hji; exact ⟨oi, ei, hi, hy, hok, H⟩
    · obtain ⟨oj, ej, hoj, hgj, hokj, h1⟩ := H.2 j (ready_mono hj hji)
      obtain ⟨hjun, oj', hoj', hall⟩ := mem_ready.1 hj
      rw [hoj] at hoj'; cases hoj'
      have hnot : ¬ Anc ops j i := fun ha => by
        have h1 := ready_anc hcl hj ha
        have h0 := unlisted_iff (mem_ready.1 hr).1
        rw [h0] at h1; cases h1
      obtain ⟨hap, hcp⟩ := hfree j oj hoj hji hjun hnot
      obtain ⟨a1, a2, a3⟩ := Oper.apart_spec hap
      have hsi : ∀ t, oi.dst ≠ some t → (τ.eff oi.dst ei).s t = τ.s t := fun t ht => by rw [eff_s, if_neg ht]
      have hokj' : Okk Ks j oj τ := fun k hk => hokj k ((refs_same hsi a1 k).2 hk)
      have hcom : GEff P T R ops oj τ ej ∧ GEff P T R ops oi (τ.eff oj.dst ej) ei ∧ (τ.eff oi.dst ei).eff oj.dst ej = (τ.eff oj.dst ej).eff oi.dst ei := by
        rcases hcp with hcp | hcp
        · exact commute hap hcp hwf hy hgj
        · exact commuteK hap (fun k h1 h2 => disj_spec hcp k (hok k h1) (hokj' k h2)) hwf hy hgj
      obtain ⟨c1, c2, c3⟩ := hcom
      have hsj : ∀ t, oj.dst ≠ some t → (τ.eff oj.dst ej).s t = τ.s t := fun t ht => by rw [eff_s, if_neg ht]
      have hok2 : Okk Ks i oi (τ.eff oj.dst ej) := fun k hk => hok k ((refs_same hsj a3 k).1 hk)
      refine ⟨oj, ej, hoj, c1, hokj', ?_⟩
      refine ih (listed.setIfInBounds j true) (τ.eff oj.dst ej) (hcl.step hj) (eff_wf hwf c1) (fun k ok hk hki hun hno => ?_) (ready_mono hr (Ne.symm hji)) c2 hok2 ?_
      · refine hfree k ok hk hki ?_ hno
        by_cases hjk : j = k
        · subst hjk; exact hjun
        · rw [getD_set_ne true hjk] at hun; exact hun
      · rw [← c3, Array.setIfInBounds_comm _ _ hji]
        exact h1

def clsK (R : List Nat) (ops : List Oper) (Ks : List (List Nat)) : Bool :=
  let an := ancList ops
  (List.range ops.length).all fun j => (List.range j).all fun i =>
    match ops[i]?, ops[j]? with
    | some oi, some oj => compat R oi.op oj.op || disj (Ks.getD i []) (Ks.getD j []) || (an.getD j []).contains i
    | _, _ => true
theorem clsK_spec {ops : List Oper} {Ks : List (List Nat)} (h : clsK R ops Ks = true) {i j : Nat} (hij : i < j) {oi oj : Oper} (hi : ops[i]? = some oi) (hj : ops[j]? = some oj) (hn : ¬ Anc ops.toArray j i) : compat R oi.op oj.op = true ∨ disj (Ks.getD i []) (Ks.getD j []) = true := by
  unfold clsK at h
  simp only [List.all_eq_true, List.mem_range] at h
  have hjl := (List.getElem?_eq_some_iff.1 hj).1
  have := h j hjl i hij
  simp only [hi, hj, Bool.or_eq_true] at this
  rcases this with (h1 | h1) | h1
  · exact .inl h1
  · exact .inr h1
  · exfalso
    exact hn (ancList_aux ops ops [] (fun k => by simp) (fun j x hx => by simp at hx) j i (by simpa [ancList] using h1))

def dLexK (P : Program) (T : Tys) (R : List Nat) (ops : Array Oper) (Ks : Nat → List Nat) (Q : Ab → Prop) : List Oper → Nat → Ab → Prop
  | [], _, τ => Q τ
  | o :: rest, k, τ => ∃ e, GEff P T R ops o τ e ∧ Okk Ks k o τ ∧ dLexK P T R ops Ks Q rest (k + 1) (τ.eff o.dst e)

theorem dAnyK_lex {Q : Ab → Prop} {all : List Oper} {Ks : List (List Nat)} (hc : clsK R all Ks = true) : ∀ (l : List Oper) (k : Nat) (listed : Array Bool) (τ : Ab), (∀ j, l[j]? = all[k + j]?) → (∀ j, j < k → listed.getD j true = true) → Closed all.toArray listed → WF τ →
    Region.lexFrom .any all.toArray l.length k listed = true → dLexK P T R all.toArray (fun j => Ks.getD j []) Q l k τ → dAnyK P T R all.toArray (fun j => Ks.getD j []) Q l.length listed τ
  | [], _, _, _, _, _, _, _, hB, h => ⟨by simpa [Region.lexFrom] using hB, h⟩
  | o :: l, k, listed, τ, hl, hlt, hcl, hwf, hB, h => by
    have h0 : all.toArray[k]? = some o := by have := hl 0; simpa using this.symm
    simp only [List.length_cons, Region.lexFrom, Bool.and_eq_true] at hB
    obtain ⟨⟨hr, hf⟩, hB'⟩ := hB
    obtain ⟨e, hg, hok, hK⟩ := h
    have hr' : k ∈ Region.ready .any all.toArray listed := by simpa using hr
    refine dAnyK_first h0 l.length listed τ hcl hwf (fun j oj hj hne hun hno => ?_) hr' hg hok ?_
    · have hap := Region.free_spec h0 hf j oj hj hne hun (fun e he hb heq => hno (heq ▸ .one hj he hb))
      have hkj : k < j := by
        rcases Nat.lt_or_ge j k with h1 | h1
        · rw [hlt j h1] at hun; cases hun
        · omega
      exact ⟨hap, clsK_spec hc hkj (by simpa using h0) (by simpa using hj) hno⟩
    · refine dAnyK_lex hc l (k + 1) _ _ (fun j => by have := hl (j + 1); simpa [Nat.add_assoc, Nat.add_comm 1 j] using this) (fun j hj => ?_) (hcl.step hr') (eff_wf hwf hg) hB' hK
      by_cases hjk : k = j
      · subst hjk
        by_cases hs : k < listed.size
        · simp [hs]
        · simp [Array.getElem?_eq_none (show (listed.setIfInBounds k true).size ≤ k by simpa using hs)]
      · rw [getD_set_ne true hjk]; exact hlt j (by omega)

theorem dLex_of_K {Q : Ab → Prop} {Ks : Nat → List Nat} : ∀ {l : List Oper} {k : Nat} {τ : Ab}, dLexK P T R ops Ks Q l k τ → dLex P T R ops Q l τ
  | [], _, _, h => h
  | o :: l, k, τ, h => by obtain ⟨e, h1, _, h2⟩ := h; exact ⟨e, h1, dLex_of_K h2⟩

def dstB (n : Nat) (ops : List Oper) : Bool := ops.all fun o => match o.dst with | some d => d < n | none => true
theorem dstB_spec {n : Nat} {ops : List Oper} (h : dstB n ops = true) (i : Nat) (o : Oper) (ho : ops.toArray[i]? = some o) (d : Nat) (hd : o.dst = some d) : d < n := by
  have := List.all_eq_true.1 h o (List.mem_of_getElem? (by simpa using ho))
  simpa [hd] using this

section
variable {X : Env} {w0 : World} {M0 : Mem} {n : Nat} {τ : Ab} {ac : Act} {w : World} {Q : Exit → Act → World → Prop}

/-- A region that asks the tape: the walk in the order of the text serves every order. -/
theorem region_draw {id : Nat} {l : List Oper} (hm : P.follows .mixedOrders = true) (hT : TOK P T) (hB : Region.lexB .any l.toArray = true) (hc : clsB R l = true) (hn : dstB n l = true) {Qd : Ab → Prop}
    (h : dLex P T R l.toArray Qd l τ) (hs : Sim X w0 M0 n τ ac w) (hQ : ∀ τ ac w, Qd τ → Sim X w0 M0 n τ ac w → Q .normal ac w) : (Code.region id l.toArray true).wp P Q ac w := by
  simp only [Region.lexB, Bool.and_eq_true] at hB
  have hwf := hs.wf
  obtain ⟨M, γ, hs⟩ := hs
  refine wp_region_any hm (wpAny_of_dAny (R := R) hT (dstB_spec hn) hQ _ _ τ _ _ ?_ ⟨M, γ, hs.drew _⟩)
  have := dAny_lex (P := P) (T := T) (R := R) (Q := Qd) hc l 0 (Array.replicate l.toArray.size false) τ (by simp) (fun j hj => absurd hj (Nat.not_lt_zero _)) (fun j o hj => ?_) hwf (by simpa using hB.2) h
  · simpa using this
  · exfalso
    simp only [Array.getD_eq_getD_getElem?, Array.getElem?_replicate] at hj
    split at hj <;> simp at hj

/-- A region that asks the tape, with what its operands refer to. -/
theorem region_drawK {id : Nat} {l : List Oper} {Ks : List (List Nat)} (hm : P.follows .mixedOrders = true) (hT : TOK P T) (hB : Region.lexB .any l.toArray = true) (hc : clsK R l Ks = true) (hn : dstB n l = true) {Qd : Ab → Prop}
    (h : dLexK P T R l.toArray (fun j => Ks.getD j []) Qd l 0 τ) (hs : Sim X w0 M0 n τ ac w) (hQ : ∀ τ ac w, Qd τ → Sim X w0 M0 n τ ac w → Q .normal ac w) : (Code.region id l.toArray true).wp P Q ac w := by
  simp only [Region.lexB, Bool.and_eq_true] at hB
  have hwf := hs.wf
  obtain ⟨M, γ, hs⟩ := hs
  refine wp_region_any hm (wpAny_of_dAny (R := R) hT (dstB_spec hn) hQ _ _ τ _ _ (dAny_of_K (Ks := fun j => Ks.getD j []) _ _ _ ?_) ⟨M, γ, hs.drew _⟩)
  have := dAnyK_lex (P := P) (T := T) (R := R) (Q := Qd) hc l 0 (Array.replicate l.toArray.size false) τ (by simp) (fun j hj => absurd hj (Nat.not_lt_zero _)) (fun j o hj => ?_) hwf (by simpa using hB.2) h
  · simpa using this
  · exfalso
    simp only [Array.getD_eq_getD_getElem?, Array.getElem?_replicate] at hj
    split at hj <;> simp at hj

/-- The region in the order of the text, where calls may have results that are known by a property. -/
def dLexE (P : Program) (T : Tys) (R : List Nat) (ops : Array Oper) (Q : Ab → Prop) : List Oper → Ab → Prop
  | [], τ => Q τ
  | o :: rest, τ => (∃ e, GEff P T R ops o τ e ∧ dLexE P T R ops Q rest (τ.eff o.dst e)) ∨ (∃ E : Ef → Prop, Wanted ops τ o ∧ DEff P T o τ E ∧ ∀ e, E e → dLexE P T R ops Q rest (τ.eff o.dst e))

theorem DStep.sound (hd : ∀ (i : Nat) (o : Oper), ops[i]? = some o → ∀ d, o.dst = some d → d < n) {i : Nat} {o : Oper} {E : Ef → Prop} (ho : ops[i]? = some o) (hw : Wanted ops τ o) (hg : DEff P T o τ E) (h : Sim X w0 M0 n τ ac w) {K : Act → World → Prop}
    (hK : ∀ e ac' w', E e → Sim X w0 M0 n (τ.eff o.dst e) ac' w' → K ac' w') : wpOp P ops Q i K ac w := by
  obtain ⟨M, γ, hs⟩ := h
  have hwa : Region.wanted o (yielded ops ac.tmps) = true := by
    unfold Region.wanted
    rcases hw with hw | ⟨j, want, t, h1, h2, h3⟩
    · rw [hw]
    · rw [h1]
      simp only [(yielded_of hs h2).1 want h3, beq_self_eq_true]
  unfold wpOp
  rw [ho]
  simp only [hwa, if_true]
  exact .inl (Oper.wp_mono (fun ac' w' h => by obtain ⟨e, h1, h2⟩ := h; exact hK e ac' w' h1 h2) (hg.sound (hd i o ho) hs Q))

theorem wpOps_lexE (hT : TOK P T) {l : List Oper} (hn : dstB n l = true) {Qd : Ab → Prop} (hQ : ∀ τ ac w, Qd τ → Sim X w0 M0 n τ ac w → Q .normal ac w) :
    ∀ (rest : List Oper) (k : Nat) (τ : Ab) (ac : Act) (w : World), (∀ j, rest[j]? = l[k + j]?) → dLexE P T R l.toArray Qd rest τ → Sim X w0 M0 n τ ac w → wpOps P l.toArray Q (List.range' k rest.length) ac w
  | [], _, τ, ac, w, _, h, hs => hQ τ ac w h hs
  | o :: rest, k, τ, ac, w, hl, h, hs => by
    have h0 : l.toArray[k]? = some o := by have := hl 0; simpa using this.symm
    have hl2 : ∀ j, rest[j]? = l[k + 1 + j]? := fun j => by have := hl (j + 1); simpa [Nat.add_assoc, Nat.add_comm 1 j] using this
    rw [List.length_cons, List.range'_succ, wpOps_cons]
    rcases h with ⟨e, hg, hK⟩ | ⟨E, hw, hg, hK⟩
    · exact GStep.sound (P := P) (T := T) (R := R) hT (dstB_spec hn) ⟨o, e, h0, hg, rfl⟩ hs fun ac' w' hs' => wpOps_lexE hT hn hQ rest (k + 1) _ ac' w' hl2 hK hs'
    · exact DStep.sound (P := P) (T := T) (dstB_spec hn) h0 hw hg hs fun e ac' w' he hs' => wpOps_lexE hT hn hQ rest (k + 1) _ ac' w' hl2 (hK e he) hs'

theorem wpOps_lex (hT : TOK P T) {l : List Oper} (hn : dstB n l = true) {Qd : Ab → Prop} (hQ : ∀ τ ac w, Qd τ → Sim X w0 M0 n τ ac w → Q .normal ac w) :
    ∀ (rest : List Oper) (k : Nat) (τ : Ab) (ac : Act) (w : World), (∀ j, rest[j]? = l[k + j]?) → dLex P T R l.toArray Qd rest τ → Sim X w0 M0 n τ ac w → wpOps P l.toArray Q (List.range' k rest.length) ac w
  | [], _, τ, ac, w, _, h, hs => hQ τ ac w h hs
  | o :: rest, k, τ, ac, w, hl, h, hs => by
    have h0 : l.toArray[k]? = some o := by have := hl 0; simpa using this.symm
    obtain ⟨e, hg, hK⟩ := h
    rw [List.length_cons, List.range'_succ, wpOps_cons]
    refine GStep.sound (P := P) (T := T) (R := R) hT (dstB_spec hn) ⟨o, e, h0, hg, rfl⟩ hs fun ac' w' hs' => ?_
    exact wpOps_lex hT hn hQ rest (k + 1) _ ac' w' (fun j => by have := hl (j + 1); simpa [Nat.add_assoc, Nat.add_comm 1 j] using this) hK hs'

theorem region_plain {id : Nat} {l : List Oper} (hT : TOK P T) (hn : dstB n l = true) {Qd : Ab → Prop}
    (h : dLexE P T R l.toArray Qd l τ) (hs : Sim X w0 M0 n τ ac w) (hQ : ∀ τ ac w, Qd τ → Sim X w0 M0 n τ ac w → Q .normal ac w) : (Code.region id l.toArray false).wp P Q ac w := by
  refine wp_region ?_
  have := wpOps_lexE (Q := Q) hT hn hQ l 0 τ ac w (by simp) h hs
  rw [List.range_eq_range']
  simpa using this
end
end
end Go.DL
