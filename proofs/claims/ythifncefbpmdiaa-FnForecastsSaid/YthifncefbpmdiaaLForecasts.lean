/- The statement FnExactForecastsSaid: the law returns true for every input that can be read as data, and each argument reads afterwards as it read before. No conditions. -/
import Derived.Test.YthifncefbpmdiaaM
import Derived.Test.YthifncefbpmdiaaS5
import Derived.Test.YthifncefbpmdiaaP8
import Derived.ProofKit
namespace Go.DL
set_option maxRecDepth 100000
set_option maxHeartbeats 2000000
set_option linter.unusedSimpArgs false
set_option linter.unusedVariables false
open Go.RowKit Go.Proofs Go.Proofs.Ythifncefbpmdiaa

noncomputable def totI (it : ByteArray) (d : DemandV) : Int := ifP (d.item = it) d.quantity 0
theorem sumI_eq {α : Type} {f g : α → Int} : ∀ {l : List α}, (∀ x ∈ l, f x = g x) → sumI f l = sumI g l
  | [], _ => rfl
  | x :: l, h => by rw [sumI_cons, sumI_cons, h x (by simp), sumI_eq fun y hy => h y (by simp [hy])]
theorem sumI_nn {α : Type} {f : α → Int} : ∀ {l : List α}, (∀ x ∈ l, 0 ≤ f x) → 0 ≤ sumI f l
  | [], _ => Int.le_refl _
  | x :: l, h => by
    have h1 := h x (by simp)
    have h2 := sumI_nn (l := l) fun y hy => h y (by simp [hy])
    rw [sumI_cons]; omega
theorem sumI_z {α : Type} {f : α → Int} : ∀ {l : List α}, (∀ x ∈ l, f x = 0) → sumI f l = 0
  | [], _ => rfl
  | x :: l, h => by rw [sumI_cons, h x (by simp), sumI_z fun y hy => h y (by simp [hy])]; rfl
theorem sumI_perm {α : Type} {f : α → Int} {l m : List α} (h : l.Perm m) : sumI f l = sumI f m := by
  induction h with
  | nil => rfl
  | cons x _ ih => rw [sumI_cons, sumI_cons, ih]
  | swap x y l => rw [sumI_cons, sumI_cons, sumI_cons, sumI_cons]; omega
  | trans _ _ h1 h2 => rw [h1, h2]
theorem totI_nn {it : ByteArray} {d : DemandV} (h : 0 ≤ d.quantity) : 0 ≤ totI it d := by
  unfold totI
  rcases Classical.em (d.item = it) with h1 | h1
  · rw [ifP_t h1]; exact h
  · rw [ifP_f h1]; omega
theorem up_tot {l : List DemandV} (h : areDemandsP l) (it : ByteArray) : demandUpToN l it 999 = sumI (totI it) l := by
  unfold demandUpToN
  rw [ifP_t h]
  refine sumI_eq fun d hd => ?_
  obtain ⟨i, hi⟩ := List.getElem?_of_mem hd
  have h4 := (h.1 i d hi).2.2.2.1
  unfold inP at h4
  unfold demTo totI
  rcases Classical.em (d.item = it) with h1 | h1
  · rw [ifP_t h1, ifP_t ⟨h1, h4.2⟩]
  · rw [ifP_f h1, ifP_f (fun h => h1 h.1)]
theorem takeL_ind {item : ByteArray} {day q : Int} {mot : List DemandV → List DemandV → Int → Prop} (h0 : mot [] [] q) {l : List DemandV} (hs : ∀ P R r d, d ∈ l → mot P R r → mot (P ++ [d]) (R ++ [tkE item day r d]) (tkQ item day r d)) : mot l (takeL item day l q).1 (takeL item day l q).2 := by
  have key : ∀ i, i ≤ l.length → mot (l.take i) (takeL item day (l.take i) q).1 (takeL item day (l.take i) q).2 := by
    intro i
    induction i with
    | zero => exact fun _ => h0
    | succ i ih =>
      intro hi
      have hx : l[i]? = some (l[i]'hi) := List.getElem?_eq_getElem hi
      rw [takeL_snoc hx, take_snoc hx]
      exact hs _ _ _ _ (get_mem hx) (ih (by omega))
  have := key l.length (Nat.le_refl _)
  rwa [List.take_length] at this
def relD (L L' : List DemandV) : Prop := L'.length = L.length ∧ ∀ (i : Nat) (d : DemandV), L[i]? = some d → ∃ c : Int, 0 ≤ c ∧ c ≤ d.quantity ∧ L'[i]? = some ({ d with quantity := c } : DemandV)
theorem relD.refl {L : List DemandV} (h : ∀ d ∈ L, 0 ≤ d.quantity) : relD L L := ⟨rfl, fun i d hd => ⟨d.quantity, h d (get_mem hd), Int.le_refl _, hd⟩⟩
theorem relD.trans {A B C : List DemandV} (h : relD A B) (k : relD B C) : relD A C := by
  refine ⟨k.1.trans h.1, fun i d hd => ?_⟩
  obtain ⟨c, c0, c1, hc⟩ := h.2 i d hd
  obtain ⟨e, e0, e1, he⟩ := k.2 i _ hc
  exact ⟨e, e0, Int.le_trans e1 c1, he⟩
theorem relD.mem {L L' : List DemandV} (h : relD L L') {d' : DemandV} (hd : d' ∈ L') : ∃ d ∈ L, d'.id = d.id ∧ d'.item = d.item ∧ d'.day = d.day ∧ d'.rank = d.rank ∧ 0 ≤ d'.quantity ∧ d'.quantity ≤ d.quantity := by
  obtain ⟨i, hi⟩ := List.getElem?_of_mem hd
  have hl := get_lt hi
  have hl2 : i < L.length := by have := h.1; omega
  have hx : L[i]? = some (L[i]'hl2) := List.getElem?_eq_getElem hl2
  obtain ⟨c, c0, c1, hc⟩ := h.2 i _ hx
  rw [hi] at hc
  cases hc
  exact ⟨_, get_mem hx, rfl, rfl, rfl, rfl, c0, c1⟩
structure GoF (item : ByteArray) (p p' : List DemandV × Int) : Prop where
  lo : 0 ≤ p'.2
  hi : p'.2 ≤ p.2
  tot : ∀ it, sumI (totI it) p'.1 = sumI (totI it) p.1 - ifP (it = item) (p.2 - p'.2) 0
  rel : relD p.1 p'.1
  qb : ∀ d ∈ p'.1, qtyB d
theorem GoF.refl {item : ByteArray} {p : List DemandV × Int} (h0 : 0 ≤ p.2) (h : ∀ d ∈ p.1, qtyB d) : GoF item p p := ⟨h0, Int.le_refl _, fun it => by
  rcases Classical.em (it = item) with h | h
  · rw [ifP_t h]; omega
  · rw [ifP_f h]; omega, .refl fun d hd => (h d hd).1, h⟩
theorem GoF.trans {item : ByteArray} {p q r : List DemandV × Int} (h : GoF item p q) (k : GoF item q r) : GoF item p r := ⟨k.lo, Int.le_trans k.hi h.hi, fun it => by
  rw [k.tot, h.tot]
  rcases Classical.em (it = item) with h | h
  · rw [ifP_t h, ifP_t h, ifP_t h]; omega
  · rw [ifP_f h, ifP_f h, ifP_f h]; omega, h.rel.trans k.rel, k.qb⟩
theorem tk_tot {item : ByteArray} {day q : Int} {d : DemandV} (it : ByteArray) : totI it (tkE item day q d) = totI it d - ifP (it = item) (q - tkQ item day q d) 0 := by
  unfold tkE tkQ
  split
  · rename_i h
    rcases Classical.em (it = item) with h1 | h1
    · rw [ifP_t h1]
      unfold totI
      rw [ifP_t (show d.item = it from h.1.trans h1.symm), ifP_t (show ({ d with quantity := d.quantity - Min.min q d.quantity } : DemandV).item = it from h.1.trans h1.symm)]
      dsimp only
      omega
    · rw [ifP_f h1]
      unfold totI
      rw [ifP_f (show ¬ d.item = it from fun e => h1 (e.symm.trans h.1)), ifP_f (show ¬ ({ d with quantity := d.quantity - Min.min q d.quantity } : DemandV).item = it from fun e => h1 (e.symm.trans h.1))] <;> omega
  · rcases Classical.em (it = item) with h1 | h1
    · rw [ifP_t h1]; omega
    · rw [ifP_f h1]; omega
theorem tk_form (item : ByteArray) (day q : Int) (d : DemandV) (hq : 0 ≤ q) (hd : 0 ≤ d.quantity) : ∃ c, 0 ≤ c ∧ c ≤ d.quantity ∧ tkE item day q d = { d with quantity := c } := by
  unfold tkE
  split
  · exact ⟨_, by omega, by omega, rfl⟩
  · exact ⟨d.quantity, hd, Int.le_refl _, rfl⟩
theorem go_take {item : ByteArray} {p : List DemandV × Int} (day : Int) (h0 : 0 ≤ p.2) (h : ∀ d ∈ p.1, qtyB d) : GoF item p (takeL item day p.1 p.2) := by
  have hk := takeL_ok (item := item) (day := day) p.1 p.2 h0 h
  have hm := takeL_ind (item := item) (day := day) (q := p.2) (l := p.1) (mot := fun P R r => 0 ≤ r ∧ (∀ it, sumI (totI it) R = sumI (totI it) P - ifP (it = item) (p.2 - r) 0) ∧ relD P R)
    ⟨h0, fun it => by rcases Classical.em (it = item) with h | h <;> simp [h, ifP_t, ifP_f, sumI], rfl, fun i d hd => by simp at hd⟩
    (fun P R r d hd hm => by
      obtain ⟨m0, m1, m2⟩ := hm
      have hqd := h d hd
      refine ⟨(tk_ok m0 hqd).2.1, fun it => ?_, by simp [m2.1], fun i x hx => ?_⟩
      · rw [sumI_append, sumI_append, sumI_cons, sumI_nil, sumI_cons, sumI_nil, tk_tot, m1]
        rcases Classical.em (it = item) with h | h
        · rw [ifP_t h, ifP_t h, ifP_t h]; omega
        · rw [ifP_f h, ifP_f h, ifP_f h]; omega
      · by_cases hi : i < P.length
        · rw [List.getElem?_append_left hi] at hx
          rw [List.getElem?_append_left (by rw [m2.1]; exact hi)]
          exact m2.2 i x hx
        · have hil := get_lt hx
          simp at hil
          have : i = P.length := by omega
          subst this
          simp at hx; subst hx
          obtain ⟨c, c0, c1, hc⟩ := tk_form item day r d m0 hqd.1
          exact ⟨c, c0, c1, by rw [List.getElem?_append_right (by rw [m2.1]; exact Nat.le_refl _), m2.1]; simp [hc]⟩)
  exact ⟨hk.2.2.1, hk.2.2.2, hm.2.1, hm.2.2, hk.2.1⟩
def winZ (item : ByteArray) (lo hi : Int) (p : List DemandV × Int) : Prop := 0 < p.2 → ∀ d ∈ p.1, d.item = item → lo ≤ d.day → d.day ≤ hi → d.quantity = 0
theorem take_zero {item : ByteArray} {p : List DemandV × Int} (day : Int) (h0 : 0 ≤ p.2) (h : ∀ d ∈ p.1, qtyB d) : winZ item day day (takeL item day p.1 p.2) := by
  have hm := takeL_ind (item := item) (day := day) (q := p.2) (l := p.1) (mot := fun _ R r => 0 ≤ r ∧ (0 < r → ∀ d ∈ R, d.item = item → d.day = day → d.quantity = 0))
    ⟨h0, fun _ d hd => by simp at hd⟩
    (fun P R r d hd hm => by
      obtain ⟨m0, m1⟩ := hm
      have hqd := h d hd
      have ht := tk_ok (item := item) (day := day) m0 hqd
      refine ⟨ht.2.1, fun hr x hx hi hdy => ?_⟩
      rcases List.mem_append.1 hx with hx | hx
      · exact m1 (by omega) x hx hi hdy
      · simp at hx
        subst hx
        unfold tkE at hi hdy ⊢
        unfold tkQ at hr
        unfold qtyB at hqd
        split at hr
        · rw [if_pos (by assumption)]
          dsimp only
          omega
        · rename_i hno
          rw [if_neg hno] at hi hdy ⊢
          exact absurd ⟨hi, hdy⟩ hno)
  exact fun hr d hd h1 h2 h3 => hm.2 hr d hd h1 (by omega)
theorem win_keep {item : ByteArray} {lo hi : Int} {p p' : List DemandV × Int} (h : winZ item lo hi p) (g : GoF item p p') : winZ item lo hi p' := fun hr d hd h1 h2 h3 => by
  obtain ⟨e, he, _, e2, e3, _, e5, e6⟩ := g.rel.mem hd
  have := h (by have := g.hi; omega) e he (e2 ▸ h1) (e3 ▸ h2) (e3 ▸ h3)
  omega
theorem go_back {item : ByteArray} {p : List DemandV × Int} {day : Int} (h0 : 0 ≤ p.2) (h : ∀ d ∈ p.1, qtyB d) (hw : winZ item day day p) : ∀ n, GoF item p (backF item day n p) ∧ winZ item (day - (n : Int)) day (backF item day n p)
  | 0 => ⟨.refl h0 h, by show winZ item (day - ((0 : Nat) : Int)) day p; rw [show day - ((0 : Nat) : Int) = day by omega]; exact hw⟩
  | n + 1 => by
    obtain ⟨g, w⟩ := go_back h0 h hw n
    rw [backF_succ]
    have g2 := go_take (item := item) (p := backF item day n p) (day - ((n : Int) + 1)) g.lo g.qb
    refine ⟨g.trans g2, fun hr d hd h1 h2 h3 => ?_⟩
    by_cases e : d.day = day - ((n : Int) + 1)
    · exact take_zero (day - ((n : Int) + 1)) g.lo g.qb hr d hd h1 (by omega) (by omega)
    · exact win_keep w g2 hr d hd h1 (by omega) h3
theorem go_ahead {item : ByteArray} {p : List DemandV × Int} {day lo : Int} (h0 : 0 ≤ p.2) (h : ∀ d ∈ p.1, qtyB d) (hw : winZ item lo day p) : ∀ n, GoF item p (aheadF item day n p) ∧ winZ item lo (day + (n : Int)) (aheadF item day n p)
  | 0 => ⟨.refl h0 h, by show winZ item lo (day + ((0 : Nat) : Int)) p; rw [show day + ((0 : Nat) : Int) = day by omega]; exact hw⟩
  | n + 1 => by
    obtain ⟨g, w⟩ := go_ahead h0 h hw n
    rw [aheadF_succ]
    have g2 := go_take (item := item) (p := aheadF item day n p) (day + ((n : Int) + 1)) g.lo g.qb
    refine ⟨g.trans g2, fun hr d hd h1 h2 h3 => ?_⟩
    by_cases e : d.day = day + ((n : Int) + 1)
    · exact take_zero (day + ((n : Int) + 1)) g.lo g.qb hr d hd h1 (by omega) (by omega)
    · exact win_keep w g2 hr d hd h1 h2 (by omega)
theorem go_order {L : List DemandV} (o : DemandV) (back ahead : Nat) (ho : qtyB o) (h : ∀ d ∈ L, qtyB d) : ∃ r, GoF o.item (L, o.quantity) (consO back ahead L o, r) ∧ winZ o.item (o.day - (back : Int)) (o.day + (ahead : Int)) (consO back ahead L o, r) := by
  have g0 := go_take (item := o.item) (p := (L, o.quantity)) o.day ho.1 h
  obtain ⟨g1, w1⟩ := go_back g0.lo g0.qb (take_zero (p := (L, o.quantity)) o.day ho.1 h) back
  obtain ⟨g2, w2⟩ := go_ahead (day := o.day) g1.lo g1.qb w1 ahead
  exact ⟨_, (g0.trans g1).trans g2, w2⟩
/-- All orders: no more than they are is taken, and as much as can be if the windows are wide. -/
theorem go_all {back ahead : Nat} : ∀ (O L : List DemandV), (∀ o ∈ O, qtyB o) → (∀ d ∈ L, qtyB d) → relD L (consL back ahead O L) ∧ (∀ it, sumI (totI it) (consL back ahead O L) ≤ sumI (totI it) L ∧ sumI (totI it) L - sumI (totI it) (consL back ahead O L) ≤ sumI (totI it) O) ∧
    (back = 60 → ahead = 60 → (∀ o ∈ O, 0 ≤ o.day ∧ o.day ≤ 60) → (∀ d ∈ L, 0 ≤ d.day ∧ d.day ≤ 60) → ∀ it, sumI (totI it) (consL back ahead O L) = Max.max 0 (sumI (totI it) L - sumI (totI it) O))
  | [], L, _, h => ⟨.refl fun d hd => (h d hd).1, fun it => by simp [consL, sumI], fun _ _ _ _ it => by
      have := sumI_nn (f := totI it) (l := L) fun d hd => totI_nn (h d hd).1
      show sumI (totI it) L = Max.max 0 (sumI (totI it) L - sumI (totI it) [])
      rw [sumI_nil]; omega⟩
  | o :: O, L, hO, h => by
    have ho := hO o (by simp)
    obtain ⟨r, g, w⟩ := go_order o back ahead ho h
    have hc2 := consO_ok (back := back) (ahead := ahead) rfl h ho
    obtain ⟨i1, i2, i3⟩ := go_all (back := back) (ahead := ahead) O (consO back ahead L o) (fun x hx => hO x (by simp [hx])) hc2.2
    have ec : consL back ahead (o :: O) L = consL back ahead O (consO back ahead L o) := rfl
    have hlo := g.lo
    have hhi := g.hi
    dsimp only at hlo hhi
    have tot := g.tot
    dsimp only at tot
    have hO0 : ∀ it, 0 ≤ sumI (totI it) O := fun it => sumI_nn fun d hd => totI_nn (hO d (by simp [hd])).1
    have hto : ∀ it, sumI (totI it) (o :: O) = ifP (it = o.item) o.quantity 0 + sumI (totI it) O := fun it => by
      rw [sumI_cons]
      unfold totI
      rcases Classical.em (it = o.item) with h | h
      · rw [ifP_t h, ifP_t h.symm]
      · rw [ifP_f h, ifP_f (fun e => h e.symm)]
    have hrel := g.rel
    dsimp only at hrel
    unfold winZ at w
    dsimp only at w
    generalize consO back ahead L o = L' at g i1 i2 i3 hc2 ec tot hrel w
    clear g
    refine ⟨ec ▸ hrel.trans i1, fun it => ?_, fun hb ha hd1 hd2 it => ?_⟩
    · rw [ec, hto]
      have t1 := i2 it
      have t2 := tot it
      rcases Classical.em (it = o.item) with he | he
      · rw [ifP_t he] at t2 ⊢; omega
      · rw [ifP_f he] at t2 ⊢; omega
    · have hnd : ∀ d ∈ L', 0 ≤ d.day ∧ d.day ≤ 60 := fun d hd => by
        obtain ⟨e, he, _, _, e3, _⟩ := hrel.mem hd
        rw [e3]; exact hd2 e he
      have i4 := i3 hb ha (fun x hx => hd1 x (by simp [hx])) hnd it
      rw [ec, i4, hto]
      have ht := tot it
      have hT' := sumI_nn (f := totI it) (l := L') fun d hd => totI_nn (hc2.2 d hd).1
      have hT := sumI_nn (f := totI it) (l := L) fun d hd => totI_nn (h d hd).1
      have h0 := hO0 it
      have hb2 : (back : Int) = 60 := by omega
      have ha2 : (ahead : Int) = 60 := by omega
      have hod := hd1 o (by simp)
      rcases Classical.em (it = o.item) with he | he
      · rw [ifP_t he] at ht ⊢
        have hz : 0 < r → sumI (totI it) L' = 0 := fun hr => sumI_z fun d hd => by
          unfold totI
          rcases Classical.em (d.item = it) with h1 | h1
          · rw [ifP_t h1]
            have hdd := hnd d hd
            exact w hr d hd (h1.trans he) (by omega) (by omega)
          · rw [ifP_f h1]
        rcases Int.lt_or_le 0 r with hr | hr
        · have := hz hr; omega
        · omega
      · rw [ifP_f he] at ht ⊢; omega
theorem tot_pos {C : List DemandV} (h : ∀ d ∈ C, qtyB d) (it : ByteArray) : sumI (totI it) (posN C) = sumI (totI it) C := by
  induction C with
  | nil => rfl
  | cons d C ih =>
    have ih := ih fun x hx => h x (by simp [hx])
    have hd := (h d (by simp)).1
    unfold posN at ih ⊢
    rw [List.filter_cons]
    split
    · rw [sumI_cons, sumI_cons, ih]
    · rename_i hq
      simp at hq
      rw [sumI_cons, ih]
      have : totI it d = 0 := by
        unfold totI
        rcases Classical.em (d.item = it) with h1 | h1
        · rw [ifP_t h1]; omega
        · rw [ifP_f h1]
      omega
theorem pos_are {f C : List DemandV} (hf : areDemandsP f) (hr : relD (sortN f) C) : areDemandsP (posN C) := by
  have hq : ∀ d ∈ C, inP d.id 1 9999 ∧ isCodeP d.item ∧ d.quantity ≤ 100000 ∧ inP d.day 0 999 ∧ inP d.rank 0 9 := fun d hd => by
    obtain ⟨e, he, e1, e2, e3, e4, e5, e6⟩ := hr.mem hd
    obtain ⟨i, hi⟩ := List.getElem?_of_mem ((sort_perm f).mem_iff.1 he)
    obtain ⟨h1, h2, h3, h4, h5, _⟩ := hf.1 i e hi
    unfold inP at *
    rw [e1, e2, e3, e4]
    exact ⟨h1, h2, by omega, h4, h5⟩
  have hdC : difD C := by
    have hS : difD (sortN f) := by
      have : (sortN f).Perm f := sort_perm f
      exact (this.pairwise_iff (fun h => Ne.symm h)).2 (dem_dif hf)
    refine List.pairwise_iff_getElem.2 fun i j hi hj hij => ?_
    have hl := hr.1
    have xi : (sortN f)[i]? = some ((sortN f)[i]'(by omega)) := List.getElem?_eq_getElem _
    have xj : (sortN f)[j]? = some ((sortN f)[j]'(by omega)) := List.getElem?_eq_getElem _
    obtain ⟨c, _, _, hc⟩ := hr.2 i _ xi
    obtain ⟨e, _, _, he⟩ := hr.2 j _ xj
    have hne := List.pairwise_iff_getElem.1 hS i j (by omega) (by omega) hij
    rw [List.getElem?_eq_getElem hi] at hc
    rw [List.getElem?_eq_getElem hj] at he
    have hc := Option.some.inj hc
    have he := Option.some.inj he
    rw [hc, he]
    exact hne
  have hdP : difD (posN C) := List.Pairwise.sublist List.filter_sublist hdC
  refine ⟨fun j x hx => ?_, ?_⟩
  · have hm := List.mem_filter.1 (get_mem hx)
    obtain ⟨h1, h2, h3, h4, h5⟩ := hq x hm.1
    have h0 : 0 < x.quantity := by simpa using hm.2
    refine ⟨h1, h2, by unfold inP; omega, h4, h5, fun k hk y hy => ?_⟩
    have hl := get_lt hx
    have := List.pairwise_iff_getElem.1 hdP k j (by omega) hl hk
    rw [List.getElem?_eq_getElem hl] at hx
    rw [List.getElem?_eq_getElem (by omega)] at hy
    cases hx; cases hy
    exact this
  · have h1 := posN_len C
    have h2 := hr.1
    have h3 := sort_len f
    have h4 := hf.2
    omega
theorem bEq_self (b : Bool) : bEq b b = true := by rw [bEq_eq]; simp
def nearP (f o : List DemandV) (i : Nat) : Prop := (∀ d ∈ f.take i, d.day ≤ 60) ∧ (∀ d ∈ o.take (i - f.length), d.day ≤ 60)
theorem near_f {f o : List DemandV} {i : Nat} {d : DemandV} (h : f[i]? = some d) : nearP f o (i + 1) ↔ nearP f o i ∧ d.day ≤ 60 := by
  have hl := get_lt h
  unfold nearP
  rw [show i + 1 - f.length = 0 by omega, show i - f.length = 0 by omega, take_snoc h]
  constructor
  · rintro ⟨h1, h2⟩
    exact ⟨⟨fun x hx => h1 x (by simp [hx]), h2⟩, h1 d (by simp)⟩
  · rintro ⟨⟨h1, h2⟩, h3⟩
    refine ⟨fun x hx => ?_, h2⟩
    rcases List.mem_append.1 hx with hx | hx
    · exact h1 x hx
    · simp at hx; subst hx; exact h3
theorem near_o {f o : List DemandV} {i : Nat} {d : DemandV} (hi : f.length ≤ i) (h : o[i - f.length]? = some d) : nearP f o (i + 1) ↔ nearP f o i ∧ d.day ≤ 60 := by
  unfold nearP
  rw [show i + 1 - f.length = i - f.length + 1 by omega, take_snoc h, List.take_of_length_le (l := f) (by omega), List.take_of_length_le (l := f) (by omega)]
  constructor
  · rintro ⟨h1, h2⟩
    exact ⟨⟨h1, fun x hx => h2 x (by simp [hx])⟩, h2 d (by simp)⟩
  · rintro ⟨⟨h1, h2⟩, h3⟩
    refine ⟨h1, fun x hx => ?_⟩
    rcases List.mem_append.1 hx with hx | hx
    · exact h2 x hx
    · simp at hx; subst hx; exact h3
def fromP (d y : DemandV) : Prop := y.id = d.id ∧ y.item = d.item ∧ y.day = d.day ∧ d.quantity ≤ y.quantity
theorem cons_facts {f o : List DemandV} {back ahead : Int} (hP : consP f o back ahead) : areDemandsP (consN f o back ahead) ∧ (∀ d ∈ consN f o back ahead, ∃ y ∈ f, fromP d y) ∧
    (∀ it, demandUpToN (consN f o back ahead) it 999 ≤ demandUpToN f it 999 ∧ demandUpToN f it 999 - demandUpToN (consN f o back ahead) it 999 ≤ demandUpToN o it 999) ∧
    (back = 60 → ahead = 60 → (∀ d ∈ f, d.day ≤ 60) → (∀ d ∈ o, d.day ≤ 60) → ∀ it, demandUpToN (consN f o back ahead) it 999 = Max.max 0 (demandUpToN f it 999 - demandUpToN o it 999)) := by
  obtain ⟨hF, hO, h3, h4⟩ := hP
  have hP : consP f o back ahead := ⟨hF, hO, h3, h4⟩
  have e : consN f o back ahead = posN (consL back.toNat ahead.toNat (sortN o) (sortN f)) := by unfold consN; rw [ifP_t hP]
  have hqF := fun d hd => (dem_qty hF d hd).1
  have hqO := fun d hd => (dem_qty hO d hd).1
  obtain ⟨g1, g2, g3⟩ := go_all (back := back.toNat) (ahead := ahead.toNat) (sortN o) (sortN f) hqO hqF
  have hqC := (consL_ok (back := back.toNat) (ahead := ahead.toNat) (sortN o) (sortN f) rfl hqF hqO).2
  have hA := pos_are hF g1
  have tp := fun it => tot_pos hqC it
  have tf := fun it => sumI_perm (f := totI it) (sort_perm f)
  have to := fun it => sumI_perm (f := totI it) (sort_perm o)
  rw [e]
  refine ⟨hA, fun d hd => ?_, fun it => ?_, fun hb ha hd1 hd2 it => ?_⟩
  · obtain ⟨y, hy, e1, e2, e3, _, _, e6⟩ := g1.mem (List.mem_filter.1 hd).1
    exact ⟨y, (sort_perm f).mem_iff.1 hy, e1.symm, e2.symm, e3.symm, e6⟩
  · rw [up_tot hA, up_tot hF, up_tot hO, tp, ← tf, ← to]
    exact g2 it
  · rw [up_tot hA, up_tot hF, up_tot hO, tp, ← tf, ← to]
    subst hb ha
    refine g3 rfl rfl (fun d hd => ?_) (fun d hd => ?_) it
    · have := (dem_qty hO d hd).2
      unfold inP at this
      exact ⟨this.1, hd2 d ((sort_perm o).mem_iff.1 hd)⟩
    · have := (dem_qty hF d hd).2
      unfold inP at this
      exact ⟨this.1, hd1 d ((sort_perm f).mem_iff.1 hd)⟩
theorem up_bound {l : List DemandV} (h : areDemandsP l) (it : ByteArray) : 0 ≤ demandUpToN l it 999 ∧ demandUpToN l it 999 ≤ 1600000 := by
  have := demands_bound h it 999 l.length
  rw [List.take_length] at this
  unfold demandUpToN
  rw [ifP_t h]
  exact this
set_option maxHeartbeats 8000000 in
theorem law0_FnForecasts (b : List Int) (hb1 : b.length ≤ 9223372036854775807) (hb2 : ∀ n ∈ b, 0 ≤ n ∧ n ≤ 255) : Contract Try.prog 5 [.d (lD yD b)] (.one (.d (.sc (.bool true)))) := by
  refine contract_byR [200000 + 26] hma hTa Try.func5 (by kernel_rfl) (by kernel_rfl) ?_
  conv => whnf
  refine CallK_tr (c_laws_big b hb1) (fun h => ?_) (fun h => ?_) <;> conv => whnf
  refine DCallK_intro (c_spec_DrawConsumeForecast b (by omega) hb2) ?_
  rintro r _ ⟨f, o, back, ahead, hf, hf5, ho, ho5, hbk, hah, rfl⟩
  conv => whnf
  have ef : (List.map DemandV.dat f).length = f.length := List.length_map _
  have eo : (List.map DemandV.dat o).length = o.length := List.length_map _
  refine CallK_intro (c_impl_ConsumeForecast f hf o ho back ahead) ?_
  conv => whnf
  refine CallK_intro (c_spec_ConsumeForecast f hf o ho back ahead) ?_
  conv => whnf
  rw [bEq_self]
  conv => whnf
  refine brNTr (fun hP => ?_) (fun hP => ?_)
  rotate_left
  · have es : consN f o back ahead = [] := by unfold consN; rw [ifP_f hP]
    rw [es]
    conv => whnf
    exact congrArg (fun b => D.sc (.bool b)) (eqB_iff.2 rfl)
  conv => whnf
  have hP6 : consP f o 60 60 := ⟨hP.1, hP.2.1, by unfold inP; omega, by unfold inP; omega⟩
  refine CallK_intro (c_impl_ConsumeForecast f hf o ho 60 60) ?_
  conv => whnf
  obtain ⟨f1, f2, f3, _⟩ := cons_facts hP
  obtain ⟨w1, _, _, w4⟩ := cons_facts hP6
  have w4 := w4 rfl rfl
  have hoo := cons_ok (o := o) (back := back) (ahead := ahead) hf
  have hwo := cons_ok (o := o) (back := 60) (ahead := 60) hf
  have hol := cons_len f o back ahead
  have bf := fun it => up_bound hP.1 it
  have bo := fun it => up_bound hP.2.1 it
  generalize consN f o back ahead = out at f1 f2 f3 hoo hol ⊢
  generalize consN f o 60 60 = wide at w1 w4 hwo ⊢
  have eu : (List.map DemandV.dat out).length = out.length := List.length_map _
  refine LoopK_introR [200000 + 26] hma hTa [(3, .pl), (4, .pl), (7, .key 7), (11, .key 11), (13, .pl), (14, .pl)] (fun i : Nat => ⟨[(3, .d (lD DemandV.dat f)), (4, .d (lD DemandV.dat o)), (7, .av 7 (out.map DemandV.dat).length), (11, .av 11 (wide.map DemandV.dat).length), (13, .d (bD (tr (nearP f o i)))), (14, .d (iD i))], [(7, some ⟨28, 5, out.map DemandV.dat⟩), (11, some ⟨28, 5, wide.map DemandV.dat⟩)], []⟩) (fun i => i ≤ f.length + o.length) (fun i => f.length + o.length - i) (by kernel_rfl) ?_ ?_
  · conv => whnf
    refine ⟨0, by omega, ?_⟩
    have : tr (nearP f o 0) = true := tr_t ⟨by simp, by simp⟩
    dsimp only
    rw [this]; rfl
  · intro i hi
    have next : ∀ b : Bool, i < f.length + o.length → (b = true ↔ nearP f o (i + 1)) → ∃ a : Nat, a ≤ f.length + o.length ∧ f.length + o.length - a < f.length + o.length - i ∧ (⟨[(3, .d (lD DemandV.dat f)), (4, .d (lD DemandV.dat o)), (7, .av 7 (out.map DemandV.dat).length), (11, .av 11 (wide.map DemandV.dat).length), (13, .d (bD b)), (14, .d (iD ((i : Int) + 1)))], [(7, some ⟨28, 5, out.map DemandV.dat⟩), (11, some ⟨28, 5, wide.map DemandV.dat⟩)], []⟩ : St) = ⟨[(3, .d (lD DemandV.dat f)), (4, .d (lD DemandV.dat o)), (7, .av 7 (out.map DemandV.dat).length), (11, .av 11 (wide.map DemandV.dat).length), (13, .d (bD (tr (nearP f o a)))), (14, .d (iD a))], [(7, some ⟨28, 5, out.map DemandV.dat⟩), (11, some ⟨28, 5, wide.map DemandV.dat⟩)], []⟩ := fun b hl hb =>
      ⟨i + 1, hl, by omega, by rw [tr_bool hb]; rfl⟩
    conv => whnf
    refine WrK_i64 (by omega) (by omega) ?_
    conv => whnf
    refine brLt (fun h1 => ?_) (fun h1 => ?_) <;> conv => whnf
    · have hil : i < f.length + o.length := by omega
      refine brLt (fun h2 => ?_) (fun h2 => ?_) <;> conv => whnf
      · obtain ⟨d, hd⟩ : ∃ d, f[i]? = some d := ⟨f[i]'(by omega), by simp⟩
        have hn := near_f (o := o) hd
        refine brTr (fun h3 => ?_) (fun h3 => ?_) <;> conv => whnf
        · refine IxK_map i rfl hd ?_
          conv => whnf
          refine WrK_i64 (by omega) (by omega) ?_
          conv => whnf
          exact next _ hil (leB_iff.trans ⟨fun h => hn.2 ⟨h3, h⟩, fun h => (hn.1 h).2⟩)
        · refine WrK_i64 (by omega) (by omega) ?_
          conv => whnf
          exact next false hil ⟨fun h => (by cases h), fun h => absurd (hn.1 h).1 h3⟩
      · obtain ⟨d, hd⟩ : ∃ d, o[i - f.length]? = some d := ⟨o[i - f.length]'(by omega), by simp⟩
        have hn := near_o (f := f) (by omega) hd
        refine brTr (fun h3 => ?_) (fun h3 => ?_) <;> conv => whnf
        · refine WrK_i64 (by omega) (by omega) ?_
          conv => whnf
          refine IxK_map (i - f.length) (by omega) hd ?_
          conv => whnf
          refine WrK_i64 (by omega) (by omega) ?_
          conv => whnf
          exact next _ hil (leB_iff.trans ⟨fun h => hn.2 ⟨h3, h⟩, fun h => (hn.1 h).2⟩)
        · refine WrK_i64 (by omega) (by omega) ?_
          conv => whnf
          exact next false hil ⟨fun h => (by cases h), fun h => absurd (hn.1 h).1 h3⟩
    · have ei : i = f.length + o.length := by omega
      have hnear : nearP f o i → (∀ d ∈ f, d.day ≤ 60) ∧ ∀ d ∈ o, d.day ≤ 60 := fun h => by
        unfold nearP at h
        rw [List.take_of_length_le (by omega), List.take_of_length_le (by omega)] at h
        exact h
      generalize nearP f o i = N at hnear ⊢
      refine LoopK_introR [200000 + 26] hma hTa [(3, .pl), (4, .pl), (7, .key 7), (11, .key 11), (13, .pl), (15, .fz), (16, .pl)] (fun i : Nat => ⟨[(3, .d (lD DemandV.dat f)), (4, .d (lD DemandV.dat o)), (7, .av 7 (out.map DemandV.dat).length), (11, .av 11 (wide.map DemandV.dat).length), (13, .d (bD (tr N))), (15, .d (lD sD [⟨#[65]⟩, ⟨#[66]⟩, ⟨#[67]⟩])), (16, .d (iD i))], [(7, some ⟨28, 5, out.map DemandV.dat⟩), (11, some ⟨28, 5, wide.map DemandV.dat⟩)], []⟩) (fun i => i ≤ 3) (fun i => 3 - i) (by kernel_rfl) ?_ ?_
      · conv => whnf
        exact ⟨0, by omega, rfl⟩
      · intro i hi
        generalize hit : ([⟨#[65]⟩, ⟨#[66]⟩, ⟨#[67]⟩] : List ByteArray) = items
        have hil3 : items.length = 3 := by subst hit; rfl
        have e3 : (List.map sD items).length = 3 := by rw [List.length_map, hil3]
        conv => whnf
        refine brLt (fun h2 => ?_) (fun h2 => ?_) <;> conv => whnf
        · have hi3 : i < 3 := by omega
          obtain ⟨it, hitm⟩ : ∃ it, items[i]? = some it := ⟨items[i]'(by omega), by simp⟩
          obtain ⟨g1, g2⟩ := f3 it
          have gb := bf it
          have gc := bo it
          have gl := up_bound f1 it
          have next : ∃ a : Nat, a ≤ 3 ∧ 3 - a < 3 - i ∧ (⟨[(3, .d (lD DemandV.dat f)), (4, .d (lD DemandV.dat o)), (7, .av 7 (out.map DemandV.dat).length), (11, .av 11 (wide.map DemandV.dat).length), (13, .d (bD (tr N))), (15, .d (lD sD items)), (16, .d (iD ((i : Int) + 1)))], [(7, some ⟨28, 5, out.map DemandV.dat⟩), (11, some ⟨28, 5, wide.map DemandV.dat⟩)], []⟩ : St) = ⟨[(3, .d (lD DemandV.dat f)), (4, .d (lD DemandV.dat o)), (7, .av 7 (out.map DemandV.dat).length), (11, .av 11 (wide.map DemandV.dat).length), (13, .d (bD (tr N))), (15, .d (lD sD items)), (16, .d (iD a))], [(7, some ⟨28, 5, out.map DemandV.dat⟩), (11, some ⟨28, 5, wide.map DemandV.dat⟩)], []⟩ :=
            ⟨i + 1, hi3, by omega, rfl⟩
          refine IxK_map i rfl hitm ?_
          conv => whnf
          refine CallK_intro (c_spec_DemandUpTo f hf it 999) ?_
          conv => whnf
          refine IxK_map i rfl hitm ?_
          conv => whnf
          refine CallK_intro (c_spec_DemandUpTo o ho it 999) ?_
          conv => whnf
          refine IxK_map i rfl hitm ?_
          conv => whnf
          refine takeK_full rfl ?_
          conv => whnf
          refine CallK_intro (c_spec_DemandUpTo out hoo it 999) ?_
          conv => whnf
          refine brLt (fun h => absurd h (by omega)) (fun _ => ?_)
          conv => whnf
          refine WrK_i64 (by omega) (by omega) ?_
          conv => whnf
          refine brLt (fun h => absurd h (by omega)) (fun _ => ?_)
          conv => whnf
          refine brTr (fun h3 => ?_) (fun h3 => ?_) <;> conv => whnf
          · have hw := w4 (hnear h3).1 (hnear h3).2 it
            refine IxK_map i rfl hitm ?_
            conv => whnf
            refine takeK_full rfl ?_
            conv => whnf
            refine CallK_intro (c_spec_DemandUpTo wide hwo it 999) ?_
            conv => whnf
            refine WrK_i64 (by omega) (by omega) ?_
            conv => whnf
            refine brNEq (fun _ => ?_) (fun h => absurd hw h)
            conv => whnf
            refine WrK_i64 (by omega) (by omega) ?_
            conv => whnf
            subst hit
            exact next
          · refine WrK_i64 (by omega) (by omega) ?_
            conv => whnf
            subst hit
            exact next
        · refine LoopK_introR [200000 + 26] hma hTa [(3, .pl), (7, .fz), (20, .pl)] (fun i : Nat => ⟨[(3, .d (lD DemandV.dat f)), (7, .d (lD DemandV.dat out)), (20, .d (iD i))], [], []⟩) (fun i => i ≤ out.length) (fun i => out.length - i) (by kernel_rfl) ?_ ?_
          · conv => whnf
            refine takeK_full rfl ?_
            conv => whnf
            exact ⟨0, by omega, rfl⟩
          · intro i hi
            conv => whnf
            refine brLt (fun h4 => ?_) (fun h4 => ?_) <;> conv => whnf
            · have hil : i < out.length := by omega
              obtain ⟨d, hd⟩ : ∃ d, out[i]? = some d := ⟨out[i], by simp⟩
              refine LoopK_introR [200000 + 26] hma hTa [(3, .pl), (7, .pl), (20, .pl), (21, .pl), (22, .pl)] (fun k : Nat => ⟨[(3, .d (lD DemandV.dat f)), (7, .d (lD DemandV.dat out)), (20, .d (iD i)), (21, .d (bD (tr (∃ y ∈ f.take k, fromP d y)))), (22, .d (iD k))], [], []⟩) (fun k => k ≤ f.length) (fun k => f.length - k) (by kernel_rfl) ?_ ?_
              · conv => whnf
                exact ⟨0, by omega, by rw [tr_f ex_take_zero]; rfl⟩
              · intro k hk
                conv => whnf
                refine brLt (fun h5 => ?_) (fun h5 => ?_) <;> conv => whnf
                · have hkl : k < f.length := by omega
                  obtain ⟨y, hy⟩ : ∃ y, f[k]? = some y := ⟨f[k], by simp⟩
                  have hsx := ex_take_succ (p := fun y : DemandV => fromP d y) hy
                  have nx : ∀ b : Bool, (b = true ↔ ∃ y ∈ f.take (k + 1), fromP d y) → ∃ a : Nat, a ≤ f.length ∧ f.length - a < f.length - k ∧ (⟨[(3, .d (lD DemandV.dat f)), (7, .d (lD DemandV.dat out)), (20, .d (iD i)), (21, .d (bD b)), (22, .d (iD ((k : Int) + 1)))], [], []⟩ : St) = ⟨[(3, .d (lD DemandV.dat f)), (7, .d (lD DemandV.dat out)), (20, .d (iD i)), (21, .d (bD (tr (∃ y ∈ f.take a, fromP d y)))), (22, .d (iD a))], [], []⟩ := fun b hb =>
                    ⟨k + 1, hkl, Nat.sub_lt_sub_left hkl (Nat.lt_succ_self k), by rw [tr_bool hb]; rfl⟩
                  refine brTr (fun h6 => ?_) (fun h6 => ?_) <;> conv => whnf
                  · refine WrK_i64 (by omega) (by omega) ?_
                    conv => whnf
                    exact nx true ⟨fun _ => hsx.2 (.inl h6), fun _ => rfl⟩
                  have no : ¬ fromP d y → ∃ a : Nat, a ≤ f.length ∧ f.length - a < f.length - k ∧ (⟨[(3, .d (lD DemandV.dat f)), (7, .d (lD DemandV.dat out)), (20, .d (iD i)), (21, .d (bD false)), (22, .d (iD ((k : Int) + 1)))], [], []⟩ : St) = ⟨[(3, .d (lD DemandV.dat f)), (7, .d (lD DemandV.dat out)), (20, .d (iD i)), (21, .d (bD (tr (∃ y ∈ f.take a, fromP d y)))), (22, .d (iD a))], [], []⟩ := fun hn =>
                    nx false ⟨fun h => (by cases h), fun h => (hsx.1 h).elim (fun h => absurd h h6) (fun h => absurd h hn)⟩
                  refine IxK_map k rfl hy ?_
                  conv => whnf
                  refine IxK_map i rfl hd ?_
                  conv => whnf
                  refine brEq (fun g1 => ?_) (fun g1 => ?_) <;> conv => whnf
                  rotate_left
                  · refine WrK_i64 (by omega) (by omega) ?_
                    conv => whnf
                    exact no fun h => g1 h.1
                  refine IxK_map k rfl hy ?_
                  conv => whnf
                  refine IxK_map i rfl hd ?_
                  conv => whnf
                  refine brStr (fun g2 => ?_) (fun g2 => ?_) <;> conv => whnf
                  rotate_left
                  · refine WrK_i64 (by omega) (by omega) ?_
                    conv => whnf
                    exact no fun h => g2 h.2.1
                  refine IxK_map k rfl hy ?_
                  conv => whnf
                  refine IxK_map i rfl hd ?_
                  conv => whnf
                  refine brEq (fun g3 => ?_) (fun g3 => ?_) <;> conv => whnf
                  rotate_left
                  · refine WrK_i64 (by omega) (by omega) ?_
                    conv => whnf
                    exact no fun h => g3 h.2.2.1
                  refine IxK_map k rfl hy ?_
                  conv => whnf
                  refine IxK_map i rfl hd ?_
                  conv => whnf
                  refine WrK_i64 (by omega) (by omega) ?_
                  conv => whnf
                  exact nx _ (leB_iff.trans ⟨fun h => hsx.2 (.inr ⟨g1, g2, g3, h⟩), fun h => (hsx.1 h).elim (fun h => absurd h h6) (fun h => h.2.2.2)⟩)
                · have hf0 : ∃ y ∈ f.take k, fromP d y := by rw [List.take_of_length_le (by omega)]; exact f2 d (get_mem hd)
                  rw [tr_t hf0]
                  conv => whnf
                  refine WrK_i64 (by omega) (by omega) ?_
                  conv => whnf
                  exact ⟨i + 1, hil, Nat.sub_lt_sub_left hil (Nat.lt_succ_self i), rfl⟩
            · refine CallK_intro (c_spec_AreDemands out hoo) ?_
              conv => whnf
              rw [tr_t f1]


theorem bytes_dec {x : D} (h : HasTy (.sl .u8) x) : ∃ b : List Int, x = lD yD b ∧ b.length ≤ 9223372036854775807 ∧ ∀ n ∈ b, 0 ≤ n ∧ n ≤ 255 := by
  obtain ⟨b, e, h1, h2⟩ := sl_dec (f := yD) (ok := fun n => 0 ≤ n ∧ n ≤ 255) (e := .u8) (fun y hy => by cases hy with | u8 n lo hi => exact ⟨n, rfl, lo, hi⟩) h
  exact ⟨b, e, h1, h2⟩
theorem law_FnForecasts : ∀ xs, HasTys [.sl .u8] xs → Contract Try.prog 5 (xs.map .d) (.one (.d (.sc (.bool true)))) := by
  intro xs h
  obtain ⟨d0, r0, rfl, h0, g0⟩ := HasTys_cons h
  cases HasTys_nil g0
  obtain ⟨b, rfl, hb1, hb2⟩ := bytes_dec h0
  exact law0_FnForecasts b hb1 hb2
end Go.DL
namespace Go.Proofs.Ythifncefbpmdiaa
open Go.ChangeShapes Go.WideShapes Go.ChangeAt Go.RowKit
theorem Try.cpD : Try.checked.prog = Try.prog := by kernel_rfl
theorem Try.ownD : ownKnob Try.checked.prog.godebug = none := by kernel_rfl
theorem Try.laidOutD : laidOutB Try.checked.prog = true := by kernel_rfl
theorem Try.lawD : ∀ xs, DL.HasTys [.sl .u8] xs → DL.Contract Try.checked.prog 5 (xs.map .d) (.one (.d (.sc (.bool true)))) := by rw [Try.cpD]; exact DL.law_FnForecasts
theorem fnForecasts_lifted (os : Os) (started : os.Started) (H : Type) (enc : TypeId × Value → H) :
    ReturnsInHanded {} Try.checked os 5 .any (Rows.fnForecastsSpec.pre6 enc Try.checked.prog Try.f5 Rows.fnForecastsRow.domain false) (Rows.fnForecastsSpec.post enc Try.checked.prog Try.f5 false true false false) := by
  refine returnsInHanded_of_change (C := Try.checked) Try.ownD started (by kernel_rfl) Try.func5
    (ChangeSpec.witness6 (enc := enc) (C := Try.checked) false ⟨#[], #[.slice none 0 0], []⟩ 8 (by kernel_rfl) (by kernel_rfl) (by kernel_rfl) (by kernel_rfl)) ?_
  intro W base args ds gs before hval0 hW0 _ _
  exact DL.law_calls (P := Try.checked.prog) (fn := Try.f5) (s := Rows.fnForecastsSpec) (ts := [22]) (tb := 4) (tys := [.sl .u8]) (by kernel_rfl) (by kernel_rfl) (by kernel_rfl) rfl
    (fun ds h => match ds, h with | [d0], _ => rfl) Try.laidOutD (by kernel_rfl) Try.lawD W base args ds gs before @hval0 hW0
/-- The law returns true, whatever comes in. -/
theorem FnForecasts_holds : Rows.FnForecastsSaid :=
  OpenClaim.holds_of_wide 5 Try.f5 rfl rfl rfl rfl rfl rfl rfl ⟨rfl, rfl, rfl, rfl, rfl⟩ rfl rfl rfl rfl rfl (by kernel_rfl) Try.func5 (by kernel_rfl)
    (of_decide_eq_true (by kernel_rfl)) (by unfold Func.isWrapper; first | (rw [if_pos (by decide +kernel)]; kernel_rfl) | (rw [if_neg (by decide +kernel)]; exact ⟨rfl, rfl⟩))
    (fun os started H enc _ => fnForecasts_lifted os started H enc)
end Go.Proofs.Ythifncefbpmdiaa
namespace Go.DL

end Go.DL
