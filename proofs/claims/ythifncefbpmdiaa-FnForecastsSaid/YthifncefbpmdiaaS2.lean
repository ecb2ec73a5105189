/- Contracts of functions of the program, at this seat: what each call returns, by its arguments as data; each states its own conditions. -/
import Derived.Test.YthifncefbpmdiaaS1
import Derived.Test.YthifncefbpmdiaaC
namespace Go.DL
set_option maxRecDepth 100000
set_option maxHeartbeats 2000000
set_option linter.unusedSimpArgs false
set_option linter.unusedVariables false
open Go.RowKit Go.Proofs Go.Proofs.Ythifncefbpmdiaa

/-! Demands in order. -/
def befP (a b : DemandV) : Prop := a.day < b.day ∨ (a.day = b.day ∧ (a.rank < b.rank ∨ (a.rank = b.rank ∧ a.id < b.id)))
def cmpD (a b : DemandV) : Int := if a.day = b.day then (if a.rank = b.rank then a.id - b.id else a.rank - b.rank) else a.day - b.day
theorem cmp_neg {a b : DemandV} : cmpD a b < 0 ↔ befP a b := by
  unfold cmpD befP
  (repeat' split) <;> constructor <;> intro h <;> omega
def smallD (d : DemandV) : Prop := inP d.day 0 100000 ∧ inP d.rank 0 100000 ∧ inP d.id 0 100000
theorem cmp_small {a b : DemandV} (ha : smallD a) (hb : smallD b) : -200000 ≤ cmpD a b ∧ cmpD a b ≤ 200000 := by
  unfold cmpD
  unfold smallD inP at ha hb
  (repeat' split) <;> omega
theorem bef_tri {a b : DemandV} (h : a.id ≠ b.id) (h2 : ¬ befP a b) : befP b a := by unfold befP at *; omega
theorem bef_asym {a b : DemandV} (h : befP a b) : ¬ befP b a := by unfold befP at *; omega
theorem bef_trans {a b c : DemandV} (h : befP a b) (h2 : befP b c) : befP a c := by unfold befP at *; omega
noncomputable def insD (x : DemandV) (S : List DemandV) : List DemandV := S.takeWhile (fun y => tr (befP y x)) ++ x :: S.dropWhile (fun y => tr (befP y x))
noncomputable def sortN (l : List DemandV) : List DemandV := l.foldl (fun S x => insD x S) []
theorem sort_snoc {l : List DemandV} {i : Nat} {x : DemandV} (h : l[i]? = some x) : sortN (l.take (i + 1)) = insD x (sortN (l.take i)) := by
  unfold sortN; rw [take_snoc h, List.foldl_append]; rfl
theorem ins_split {x : DemandV} : ∀ {A B : List DemandV}, (∀ a ∈ A, befP a x) → (∀ b ∈ B, befP x b) → insD x (A ++ B) = A ++ x :: B
  | [], B, _, hB => by
    cases B with
    | nil => rfl
    | cons b B =>
      have h := bef_asym (hB b (by simp))
      unfold insD
      simp [tr_f h]
  | a :: A, B, hA, hB => by
    have ih := ins_split (A := A) (fun a h => hA a (by simp [h])) hB
    have h := hA a (by simp)
    unfold insD at ih ⊢
    simp only [List.cons_append, List.takeWhile_cons, List.dropWhile_cons, tr_t h, if_true]
    rw [ih]
theorem ins_perm (x : DemandV) (S : List DemandV) : (insD x S).Perm (x :: S) := by
  unfold insD
  refine List.perm_middle.trans ?_
  rw [List.takeWhile_append_dropWhile]
theorem sort_perm : ∀ l : List DemandV, (sortN l).Perm l := by
  intro l
  have key : ∀ (l S : List DemandV), (l.foldl (fun S x => insD x S) S).Perm (l ++ S) := by
    intro l
    induction l with
    | nil => exact fun S => List.Perm.refl _
    | cons x l ih =>
      intro S
      rw [List.foldl_cons]
      exact (ih _).trans ((List.Perm.append_left l (ins_perm x S)).trans List.perm_middle)
  simpa [sortN] using key l []
theorem sort_len (l : List DemandV) : (sortN l).length = l.length := (sort_perm l).length_eq
def ascD (l : List DemandV) : Prop := l.Pairwise befP
def difD (l : List DemandV) : Prop := l.Pairwise fun a b => a.id ≠ b.id
/-- A list in order falls into what comes before x and what comes behind it. -/
theorem asc_split {S : List DemandV} (h : ascD S) {j : Nat} (hj : j ≤ S.length) {x : DemandV} (hx : ∀ y ∈ S, y.id ≠ x.id) (h1 : j = 0 ∨ ∃ y, S[j - 1]? = some y ∧ ¬ befP x y) : ∀ a ∈ S.take j, befP a x := by
  intro a ha
  obtain ⟨i, hi⟩ := List.getElem?_of_mem ha
  obtain ⟨hi, hij⟩ := get_take hi
  rcases h1 with rfl | ⟨y, hy, hn⟩
  · omega
  · have hyx : befP y x := bef_tri (fun e => hx y (get_mem hy) e.symm) hn
    by_cases e : i = j - 1
    · subst e; rw [hi] at hy; cases hy; exact hyx
    · refine bef_trans ?_ hyx
      have hl := get_lt hy
      have hil := get_lt hi
      have := List.pairwise_iff_getElem.1 h i (j - 1) hil hl (by omega)
      rw [List.getElem?_eq_getElem hil] at hi
      rw [List.getElem?_eq_getElem hl] at hy
      cases hi; cases hy
      exact this
theorem asc_ins {S : List DemandV} (h : ascD S) {x : DemandV} (hx : ∀ y ∈ S, y.id ≠ x.id) : ∃ A B, S = A ++ B ∧ insD x S = A ++ x :: B ∧ (∀ a ∈ A, befP a x) ∧ (∀ b ∈ B, befP x b) ∧ ascD (insD x S) := by
  have hA : ∀ a ∈ S.takeWhile (fun y => tr (befP y x)), befP a x := fun a ha => by
    have := List.all_takeWhile (l := S) (p := fun y => tr (befP y x))
    exact tr_iff.1 (List.all_eq_true.1 this a ha)
  have hsp : S.takeWhile (fun y => tr (befP y x)) ++ S.dropWhile (fun y => tr (befP y x)) = S := List.takeWhile_append_dropWhile
  have hB : ∀ b ∈ S.dropWhile (fun y => tr (befP y x)), befP x b := by
    have hs := h
    rw [← hsp] at hs
    have hpw := (List.pairwise_append.1 hs).2.1
    intro b hb
    cases hd : S.dropWhile (fun y => tr (befP y x)) with
    | nil => rw [hd] at hb; simp at hb
    | cons c r =>
      have hc : ¬ befP c x := by
        have := List.head?_dropWhile_not (fun y => tr (befP y x)) S
        rw [hd] at this
        exact tr_fiff.1 (by simpa using this)
      have hcm : c ∈ S := by rw [← hsp, hd]; simp
      have hxc : befP x c := bef_tri (hx c hcm) hc
      rw [hd] at hb hpw
      rcases List.mem_cons.1 hb with rfl | hb
      · exact hxc
      · exact bef_trans hxc ((List.pairwise_cons.1 hpw).1 b hb)
  refine ⟨_, _, hsp.symm, rfl, hA, hB, ?_⟩
  have hs := h
  rw [← hsp] at hs
  obtain ⟨h1, h2, h3⟩ := List.pairwise_append.1 hs
  refine List.pairwise_append.2 ⟨h1, List.pairwise_cons.2 ⟨hB, h2⟩, fun a ha b hb => ?_⟩
  rcases List.mem_cons.1 hb with rfl | hb
  · exact hA a ha
  · exact h3 a ha b hb
theorem dif_at {l : List DemandV} (h : difD l) {i : Nat} {x : DemandV} (hx : l[i]? = some x) : ∀ y ∈ sortN (l.take i), y.id ≠ x.id := by
  intro y hy
  have hm := (sort_perm _).mem_iff.1 hy
  obtain ⟨j, hj⟩ := List.getElem?_of_mem hm
  obtain ⟨hj, hji⟩ := get_take hj
  have hl := get_lt hx
  have := List.pairwise_iff_getElem.1 h j i (by omega) hl hji
  rw [List.getElem?_eq_getElem hl] at hx
  rw [List.getElem?_eq_getElem (by omega)] at hj
  cases hx; cases hj
  exact this
theorem sort_asc {l : List DemandV} (h : difD l) : ∀ i, i ≤ l.length → ascD (sortN (l.take i))
  | 0, _ => List.Pairwise.nil
  | i + 1, hi => by
    have hx : l[i]? = some (l[i]'hi) := List.getElem?_eq_getElem hi
    rw [sort_snoc hx]
    obtain ⟨_, _, _, _, _, _, h2⟩ := asc_ins (sort_asc h i (by omega)) (dif_at h hx)
    exact h2
theorem asc_split2 {S : List DemandV} (h : ascD S) {k : Nat} {x : DemandV} (hx : ∀ y ∈ S, y.id ≠ x.id) (h1 : S.length ≤ k ∨ ∃ y, S[k]? = some y ∧ ¬ befP y x) : ∀ b ∈ S.drop k, befP x b := by
  intro b hb
  rcases h1 with h1 | ⟨y, hy, hn⟩
  · rw [List.drop_of_length_le h1] at hb; simp at hb
  · have hxy : befP x y := bef_tri (hx y (get_mem hy)) hn
    have hl := get_lt hy
    have hd := List.drop_eq_getElem_cons hl
    have hp : (S.drop k).Pairwise befP := List.Pairwise.sublist (List.drop_sublist k S) h
    rw [List.getElem?_eq_getElem hl] at hy
    cases hy
    rw [hd] at hb hp
    rcases List.mem_cons.1 hb with rfl | hb
    · exact hxy
    · exact bef_trans hxy ((List.pairwise_cons.1 hp).1 b hb)

theorem c_impl_cmp (a b : DemandV) (ha : smallD a) (hb : smallD b) : Contract Try.prog 76 [.d a.dat, .d b.dat] (.one (.d (iD (cmpD a b)))) := by
  refine contract_by hma hTa Try.func76 (by kernel_rfl) (by kernel_rfl) ?_
  have hc := cmp_small ha hb
  unfold smallD inP at ha hb
  have e1 : a.day ≠ b.day → cmpD a b = a.day - b.day := fun h => if_neg h
  have e2 : a.day = b.day → a.rank ≠ b.rank → cmpD a b = a.rank - b.rank := fun h h2 => by unfold cmpD; rw [if_pos h, if_neg h2]
  have e3 : a.day = b.day → a.rank = b.rank → cmpD a b = a.id - b.id := fun h h2 => by unfold cmpD; rw [if_pos h, if_pos h2]
  conv => whnf
  refine brNEq (fun h => ?_) (fun h => ?_) <;> conv => whnf
  · refine brNEq (fun h2 => ?_) (fun h2 => ?_) <;> conv => whnf
    · refine WrK_i64 (by omega) (by omega) ?_
      conv => whnf
      rw [e3 h h2]
    · refine WrK_i64 (by omega) (by omega) ?_
      conv => whnf
      rw [e2 h h2]
  · refine WrK_i64 (by omega) (by omega) ?_
    conv => whnf
    rw [e1 h]

set_option maxHeartbeats 4000000 in
theorem c_insertionSort (l : List DemandV) (hl : l.length ≤ 16) (hs : ∀ d ∈ l, smallD d) (hd : difD l) (n : Int) (hn : n = l.length) : LContract Try.prog 159 [.lv, .d (iD 0), .d (iD n), .fn 76] (some ⟨28, 5, l.map DemandV.dat⟩) (fun r xs => r = .unit ∧ xs = (sortN l).map DemandV.dat) := by
  subst hn
  refine contract_byL [] hma hTa Try.func159 (by kernel_rfl) (by kernel_rfl) ?_
  conv => whnf
  have e1 : (List.map DemandV.dat l).length = l.length := List.length_map _
  refine WrK_i64 (by omega) (by omega) ?_
  conv => whnf
  refine LoopK_intro hma hTa [(0, .key 100000), (1, .pl), (2, .pl), (3, .pl), (8, .pl)] (fun i : Nat => ⟨[(0, .av 100000 (l.map DemandV.dat).length), (1, .d (iD 0)), (2, .d (iD l.length)), (3, .fn 76), (8, .d (iD i))], [(100000, some ⟨28, 5, (sortN (l.take i) ++ l.drop i).map DemandV.dat⟩)], []⟩) (fun i => 1 ≤ i ∧ (i ≤ l.length ∨ i = 1)) (fun i => l.length - i) (by kernel_rfl) ?_ ?_
  · conv => whnf
    refine ⟨1, ⟨by omega, .inr rfl⟩, ?_⟩
    have : sortN (l.take 1) ++ l.drop 1 = l := by cases l <;> rfl
    dsimp only
    rw [this]; rfl
  · rintro i ⟨hi1, hi⟩
    conv => whnf
    refine brLt (fun h => ?_) (fun h => ?_) <;> conv => whnf
    · have hil : i < l.length := by omega
      obtain ⟨x, hx⟩ : ∃ x, l[i]? = some x := ⟨l[i], by simp⟩
      have hxs := hs x (get_mem hx)
      have hSl : (sortN (l.take i)).length = i := by rw [sort_len, List.length_take]; omega
      have hSs : ∀ y ∈ sortN (l.take i), smallD y := fun y hy => hs y (List.mem_of_mem_take ((sort_perm _).mem_iff.1 hy))
      have hSa := sort_asc hd i (by omega)
      have hSd := dif_at hd hx
      have hsn := sort_snoc hx
      have hdr : l.drop i = x :: l.drop (i + 1) := by rw [List.getElem?_eq_getElem hil] at hx; cases hx; exact List.drop_eq_getElem_cons hil
      rw [hdr]
      have hRl : (l.drop (i + 1)).length = l.length - (i + 1) := List.length_drop ..
      generalize hR : l.drop (i + 1) = R at hRl ⊢
      generalize sortN (l.take i) = S at hSl hSs hSa hSd hsn ⊢
      refine LoopK_intro hma hTa [(0, .key 100000), (1, .pl), (2, .pl), (3, .pl), (8, .pl), (9, .pl)] (fun j : Nat => ⟨[(0, .av 100000 (l.map DemandV.dat).length), (1, .d (iD 0)), (2, .d (iD l.length)), (3, .fn 76), (8, .d (iD i)), (9, .d (iD j))], [(100000, some ⟨28, 5, (S.take j ++ x :: (S.drop j ++ R)).map DemandV.dat⟩)], []⟩) (fun j => j ≤ i ∧ ∀ b ∈ S.drop j, befP x b) (fun j => j) (by kernel_rfl) ?_ ?_
      · conv => whnf
        refine ⟨i, ⟨Nat.le_refl _, by rw [List.drop_of_length_le (by omega)]; simp⟩, ?_⟩
        dsimp only
        rw [List.take_of_length_le (l := S) (by omega), List.drop_of_length_le (l := S) (by omega)]
        rfl
      · rintro j ⟨hj, hB⟩
        have done : (j = 0 ∨ ∃ y, S[j - 1]? = some y ∧ ¬ befP x y) → S.take j ++ x :: (S.drop j ++ R) = sortN (l.take (i + 1)) ++ R := fun h1 => by
          have hA := asc_split hSa (by omega) hSd h1
          have := ins_split hA hB
          rw [List.take_append_drop] at this
          rw [hsn, this]; simp
        have next : S.take j ++ x :: (S.drop j ++ R) = sortN (l.take (i + 1)) ++ R → ∃ a : Nat, (1 ≤ a ∧ (a ≤ l.length ∨ a = 1)) ∧ l.length - a < l.length - i ∧ (⟨[(0, .av 100000 (l.map DemandV.dat).length), (1, .d (iD 0)), (2, .d (iD l.length)), (3, .fn 76), (8, .d (iD ((i : Int) + 1)))], [(100000, some ⟨28, 5, (S.take j ++ x :: (S.drop j ++ R)).map DemandV.dat⟩)], []⟩ : St) = ⟨[(0, .av 100000 (l.map DemandV.dat).length), (1, .d (iD 0)), (2, .d (iD l.length)), (3, .fn 76), (8, .d (iD a))], [(100000, some ⟨28, 5, (sortN (l.take a) ++ l.drop a).map DemandV.dat⟩)], []⟩ := fun h1 =>
          ⟨i + 1, ⟨by omega, .inl hil⟩, Nat.sub_lt_sub_left hil (Nat.lt_succ_self i), by rw [h1, hR]; rfl⟩
        conv => whnf
        refine brLt (fun h2 => ?_) (fun h2 => ?_) <;> conv => whnf
        · obtain ⟨y, hy⟩ : ∃ y, S[j - 1]? = some y := ⟨S[j - 1]'(by omega), by simp⟩
          have hys := hSs y (get_mem hy)
          have hcm := cmp_small hxs hys
          have h1 : S.take j = S.take (j - 1) ++ [y] := by have := take_snoc hy; rwa [show j - 1 + 1 = j by omega] at this
          have h3 : S.drop (j - 1) = y :: S.drop j := by
            have hl := get_lt hy
            rw [List.getElem?_eq_getElem hl] at hy
            cases hy
            have := List.drop_eq_getElem_cons hl
            rwa [show j - 1 + 1 = j by omega] at this
          have hform : S.take j ++ x :: (S.drop j ++ R) = S.take (j - 1) ++ y :: x :: (S.drop j ++ R) := by rw [h1]; simp
          have hform2 : S.take (j - 1) ++ x :: (S.drop (j - 1) ++ R) = S.take (j - 1) ++ x :: y :: (S.drop j ++ R) := by rw [h3]; simp
          have hPl : ((S.take (j - 1)).map DemandV.dat).length = j - 1 := by simp; omega
          have hQl : ((S.drop j ++ R).map DemandV.dat).length = l.length - 1 - j := by simp; omega
          have hmp : (S.take j ++ x :: (S.drop j ++ R)).map DemandV.dat = (S.take (j - 1)).map DemandV.dat ++ y.dat :: x.dat :: (S.drop j ++ R).map DemandV.dat := by rw [hform]; simp
          have hmp2 : (S.take (j - 1) ++ x :: (S.drop (j - 1) ++ R)).map DemandV.dat = (S.take (j - 1)).map DemandV.dat ++ x.dat :: y.dat :: (S.drop j ++ R).map DemandV.dat := by rw [hform2]; simp
          have nextb := fun h => next (done (.inr ⟨y, hy, h⟩))
          clear next done
          rw [hmp] at nextb ⊢
          have g0 : ∀ P Q : List D, P.length = j - 1 → (P ++ y.dat :: x.dat :: Q)[j]? = some x.dat := fun P Q h => by
            rw [List.getElem?_append_right (by omega), show j - P.length = 1 by omega]; rfl
          have g1 : ∀ P Q : List D, P.length = j - 1 → (P ++ y.dat :: x.dat :: Q)[j - 1]? = some y.dat := fun P Q h => by
            rw [List.getElem?_append_right (by omega), show j - 1 - P.length = 0 by omega]; rfl
          have g2 : ∀ P Q : List D, P.length = j - 1 → P ++ y.dat :: y.dat :: Q = (P ++ y.dat :: x.dat :: Q).set j y.dat := fun P Q h => by
            rw [List.set_append_right _ _ (by omega), show j - P.length = 1 by omega]; rfl
          have g3 : ∀ P Q : List D, P.length = j - 1 → P ++ x.dat :: y.dat :: Q = (P ++ y.dat :: y.dat :: Q).set (j - 1) x.dat := fun P Q h => by
            rw [List.set_append_right _ _ (by omega), show j - 1 - P.length = 0 by omega]; rfl
          refine IxA_intro j rfl (by omega) ?_
          conv => whnf
          refine getK_intro (g0 _ _ hPl) ?_
          conv => whnf
          refine WrK_i64 (by omega) (by omega) ?_
          conv => whnf
          refine IxA_intro (j - 1) (by omega) (by omega) ?_
          conv => whnf
          refine getK_intro (g1 _ _ hPl) ?_
          conv => whnf
          refine CallK_intro (c_impl_cmp x y hxs hys) ?_
          conv => whnf
          refine brLt (fun h4 => ?_) (fun h4 => ?_) <;> conv => whnf
          · have hxy := cmp_neg.1 h4
            refine WrK_i64 (by omega) (by omega) ?_
            conv => whnf
            refine WrK_i64 (by omega) (by omega) ?_
            conv => whnf
            refine IxA_intro (j - 1) (by omega) (by omega) ?_
            conv => whnf
            refine getK_intro (g1 _ _ hPl) ?_
            conv => whnf
            refine IxA_intro j rfl (by omega) ?_
            conv => whnf
            refine getK_intro (g0 _ _ hPl) ?_
            conv => whnf
            refine IxA_intro j rfl (by omega) ?_
            conv => whnf
            refine setK_intro (by simp; omega) (g2 _ _ hPl) ?_
            conv => whnf
            refine IxA_intro (j - 1) (by omega) (by omega) ?_
            conv => whnf
            refine setK_intro (by simp; omega) (g3 _ _ hPl) ?_
            conv => whnf
            refine WrK_i64 (by omega) (by omega) ?_
            conv => whnf
            refine ⟨j - 1, ⟨by omega, fun b hb => ?_⟩, (show j - 1 < j by omega), ?_⟩
            · rw [h3] at hb
              rcases List.mem_cons.1 hb with rfl | hb
              · exact hxy
              · exact hB b hb
            · dsimp only
              rw [hmp2, show ((j - 1 : Nat) : Int) = (j : Int) - 1 by omega]
              rfl
          · refine WrK_i64 (by omega) (by omega) ?_
            conv => whnf
            exact nextb (fun hxy => by have := cmp_neg.2 hxy; omega)
        · refine WrK_i64 (by omega) (by omega) ?_
          conv => whnf
          exact next (done (.inl (by omega)))
    · have e2 : l.take i = l := List.take_of_length_le (by omega)
      have e3 : l.drop i = [] := List.drop_of_length_le (by omega)
      rw [e2, e3, List.append_nil]
      exact ⟨rfl, rfl, by simp [sort_len], .unit, ⟨rfl, rfl⟩, trivial⟩

theorem app_l {α : Type} {f : α → D} {A B : List α} {m : Nat} (h : m = A.length) : (A ++ B).map f = (A.map f).take m ++ B.map f := by
  subst h
  rw [List.map_append]
  congr 1
  exact (List.take_of_length_le (by simp)).symm

theorem c_stableCmp (l : List DemandV) (hl : l.length ≤ 16) (hs : ∀ d ∈ l, smallD d) (hd : difD l) (n : Int) (hn : n = l.length) : LContract Try.prog 138 [.lv, .d (iD n), .fn 76] (some ⟨28, 5, l.map DemandV.dat⟩) (fun r xs => r = .unit ∧ xs = (sortN l).map DemandV.dat) := by
  refine contract_byL [100000 + 159] hma hTa Try.func138 (by kernel_rfl) (by kernel_rfl) ?_
  conv => whnf
  have e1 : (List.map DemandV.dat l).length = l.length := List.length_map _
  have e2 : (List.map DemandV.dat (sortN l)).length = l.length := by rw [List.length_map, sort_len]
  refine LoopK_introR [100000 + 159] hma hTa [(0, .key 100000), (1, .pl), (2, .pl), (6, .pl), (7, .pl), (8, .pl)] (fun _ : Nat => ⟨[(0, .av 100000 (l.map DemandV.dat).length), (1, .d (iD n)), (2, .fn 76), (6, .d (iD 20)), (7, .d (iD 0)), (8, .d (iD 20))], [(100000, some ⟨28, 5, l.map DemandV.dat⟩)], []⟩) (fun _ => True) (fun i => i) (by kernel_rfl) ?_ ?_
  · conv => whnf
    exact ⟨0, trivial, rfl⟩
  · intro i _
    conv => whnf
    refine brLe (fun h => absurd h (by omega)) (fun _ => ?_)
    conv => whnf
    refine NeedK_intro rfl ?_
    conv => whnf
    refine LCallK_intro (c_insertionSort l hl hs hd n hn) ?_
    conv => whnf
    refine LoopK_introR [100000 + 159] hma hTa [(0, .key 100000), (1, .pl), (2, .pl), (6, .pl)] (fun _ : Nat => ⟨[(0, .av 100000 (l.map DemandV.dat).length), (1, .d (iD n)), (2, .fn 76), (6, .d (iD 20))], [(100000, some ⟨28, 5, (sortN l).map DemandV.dat⟩)], []⟩) (fun _ => True) (fun i => i) (by kernel_rfl) ?_ ?_
    · conv => whnf
      exact ⟨0, trivial, rfl⟩
    · intro i _
      conv => whnf
      refine brLt (fun h => absurd h (by omega)) (fun _ => ?_)
      conv => whnf
      exact ⟨rfl, rfl, by omega, .unit, ⟨rfl, rfl⟩, trivial⟩

theorem c_SortStable (l : List DemandV) (hl : l.length ≤ 16) (hs : ∀ d ∈ l, smallD d) (hd : difD l) : LContract Try.prog 75 [.lv, .fn 76] (some ⟨28, 5, l.map DemandV.dat⟩) (fun r xs => r = .unit ∧ xs = (sortN l).map DemandV.dat) := by
  refine contract_byL [100000 + 138] hma hTa Try.func75 (by kernel_rfl) (by kernel_rfl) ?_
  conv => whnf
  have e1 : (List.map DemandV.dat l).length = l.length := List.length_map _
  have e2 : (List.map DemandV.dat (sortN l)).length = l.length := by rw [List.length_map, sort_len]
  refine NeedK_intro rfl ?_
  conv => whnf
  refine LCallK_intro (c_stableCmp l hl hs hd _ (by omega)) ?_
  conv => whnf
  exact ⟨rfl, rfl, by omega, .unit, ⟨rfl, rfl⟩, trivial⟩

theorem dem_small {l : List DemandV} (h : areDemandsP l) : ∀ d ∈ l, smallD d := fun d hd => by
  obtain ⟨i, hi⟩ := List.getElem?_of_mem hd
  obtain ⟨h1, h2, h3, h4, h5, h6⟩ := h.1 i d hi
  unfold smallD inP at *
  omega
theorem dem_dif {l : List DemandV} (h : areDemandsP l) : difD l := by
  refine List.pairwise_iff_getElem.2 fun i j hi hj hij => ?_
  obtain ⟨_, _, _, _, _, h6⟩ := h.1 j l[j] (by simp)
  exact h6 i hij _ (by simp)
noncomputable def sortsN (l : List DemandV) : List DemandV := ifP (areDemandsP l) (sortN l) []
theorem demL_flat (l : List DemandV) : FlatL (l.map DemandV.dat) := by
  intro x hx
  obtain ⟨y, _, rfl⟩ := List.mem_map.1 hx
  intro f hf
  simp at hf
  rcases hf with rfl | rfl | rfl | rfl | rfl <;> exact ⟨_, rfl⟩

theorem c_impl_SortDemands (l : List DemandV) (hl : okL DemandV.ok l) : Contract Try.prog 17 [.d (lD DemandV.dat l)] (.one (.fr ⟨28, 5, (sortsN l).map DemandV.dat⟩)) := by
  refine contract_byR [100000 + 75] hma hTa Try.func17 (by kernel_rfl) (by kernel_rfl) ?_
  conv => whnf
  have e1 : (List.map DemandV.dat l).length = l.length := List.length_map _
  refine CallK_tr (c_impl_AreDemands _ hl) (fun hD => ?_) (fun hD => ?_) <;> conv => whnf
  · have es : sortsN l = sortN l := by unfold sortsN; rw [ifP_t hD]
    rw [es]
    have h16 := hD.2
    refine AppK_intro (n := l.length) (xs' := l.map DemandV.dat) (by simp) (by simp) (by omega) (wd fun _ => rfl) ?_
    conv => whnf
    refine NeedK_intro e1.symm ?_
    conv => whnf
    refine LCallK_intro (c_SortStable l h16 (dem_small hD) (dem_dif hD)) ?_
    conv => whnf
    exact ⟨rfl, rfl, by rw [List.length_map, sort_len], rfl, demL_flat _⟩
  · have es : sortsN l = [] := by unfold sortsN; rw [ifP_f hD]
    rw [es]
    exact ⟨rfl, by omega⟩

theorem c_spec_l13Before (a b : DemandV) : Contract Try.prog 80 [.d a.dat, .d b.dat] (.one (.d (bD (tr (befP a b))))) := by
  refine contract_by hma hTa Try.func80 (by kernel_rfl) (by kernel_rfl) ?_
  conv => whnf
  refine brNEq (fun h => ?_) (fun h => ?_) <;> conv => whnf
  · refine brNEq (fun h2 => ?_) (fun h2 => ?_) <;> conv => whnf
    · exact bB (by rw [ltB_iff]; unfold befP; omega)
    · exact bB (by rw [ltB_iff]; unfold befP; omega)
  · exact bB (by rw [ltB_iff]; unfold befP; omega)

set_option maxHeartbeats 4000000 in
theorem c_spec_SortDemands (l : List DemandV) (hl : okL DemandV.ok l) : Contract Try.prog 21 [.d (lD DemandV.dat l)] (.one (.fr ⟨28, 5, (sortsN l).map DemandV.dat⟩)) := by
  refine contract_byR [8] hma hTa Try.func21 (by kernel_rfl) (by kernel_rfl) ?_
  conv => whnf
  have e1 : (List.map DemandV.dat l).length = l.length := List.length_map _
  refine LoopK_introR [8] hma hTa [(0, .pl), (3, .key 3), (4, .pl)] (fun i : Nat => ⟨[(0, .d (lD DemandV.dat l)), (3, .av 3 (sortN (l.take i)).length), (4, .d (iD i))], [(3, some ⟨28, 5, (sortN (l.take i)).map DemandV.dat⟩)], []⟩) (fun i => i ≤ l.length ∧ (0 < i → areDemandsP l)) (fun i => l.length - i) (by kernel_rfl) ?_ ?_
  · conv => whnf
    exact ⟨0, ⟨by omega, fun h => by omega⟩, rfl⟩
  · rintro i ⟨hi, hD0⟩
    conv => whnf
    refine brLt (fun h => ?_) (fun h => ?_) <;> conv => whnf
    · refine CallK_tr (c_spec_AreDemands _ hl) (fun hD => ?_) (fun hD => ?_) <;> conv => whnf
      · have h16 := hD.2
        have hil : i < l.length := by omega
        obtain ⟨x, hx⟩ : ∃ x, l[i]? = some x := ⟨l[i], by simp⟩
        have hSl : (sortN (l.take i)).length = i := by rw [sort_len, List.length_take]; omega
        have hSa := sort_asc (dem_dif hD) i (by omega)
        have hSd := dif_at (dem_dif hD) hx
        have hsn := sort_snoc hx
        generalize sortN (l.take i) = S at hSl hSa hSd hsn ⊢
        have eS : (List.map DemandV.dat S).length = i := by rw [List.length_map, hSl]
        refine LoopK_introR [8] hma hTa [(0, .pl), (3, .fz), (4, .pl), (5, .pl)] (fun k : Nat => ⟨[(0, .d (lD DemandV.dat l)), (3, .d (lD DemandV.dat S)), (4, .d (iD i)), (5, .d (iD k))], [], []⟩) (fun k => k ≤ i ∧ ∀ a ∈ S.take k, befP a x) (fun k => i - k) (by kernel_rfl) ?_ ?_
        · conv => whnf
          refine takeK_full (List.length_map _).symm ?_
          conv => whnf
          exact ⟨0, ⟨by omega, by simp⟩, rfl⟩
        · rintro k ⟨hk, hA⟩
          conv => whnf
          have fin : (∀ b ∈ S.drop k, befP x b) → S.take k ++ [x] ++ S.drop k = sortN (l.take (i + 1)) := fun hB => by
            have := ins_split hA hB
            rw [List.take_append_drop] at this
            rw [hsn, this]; simp
          have tl : (S.take k).length = k := by simp; omega
          have dl : (S.drop k).length = i - k := by simp; omega
          have a1 : ∀ K : Nat → List D → Prop, K k ((S.take k).map DemandV.dat) → AppK [] 0 ((S.take k).map DemandV.dat) 5 K := fun K hK =>
            AppK_intro (by simp; omega) (by simp) (by omega) (wd fun _ => rfl) hK
          have a2 : ∀ K : Nat → List D → Prop, K (k + 1) ((S.take k ++ [x]).map DemandV.dat) → AppK ((S.take k).map DemandV.dat) k [x.dat] 5 K := fun K hK =>
            AppK_intro rfl (app_l (B := [x]) tl.symm) (by show k + 1 ≤ _; omega) (by simp [DemandV.dat, D.width]) hK
          have a3 : ∀ K : Nat → List D → Prop, K (i + 1) ((S.take k ++ [x] ++ S.drop k).map DemandV.dat) → AppK ((S.take k ++ [x]).map DemandV.dat) (k + 1) ((S.drop k).map DemandV.dat) 5 K := fun K hK =>
            AppK_intro (by simp; omega) (app_l (by simp; omega)) (by omega) (wd fun _ => rfl) hK
          have out : ∀ Q : Prop, Q → Q := fun _ h => h
          refine brLt (fun h2 => ?_) (fun h2 => ?_) <;> conv => whnf
          · refine IxK_mapLt k rfl (by omega) (fun y hy => ?_)
            conv => whnf
            refine IxK_map i rfl hx ?_
            conv => whnf
            refine CallK_tr (c_spec_l13Before y x) (fun h3 => ?_) (fun h3 => ?_) <;> conv => whnf
            · refine WrK_i64 (by omega) (by omega) ?_
              conv => whnf
              refine ⟨k + 1, ⟨by omega, fun a ha => ?_⟩, Nat.sub_lt_sub_left (by omega) (Nat.lt_succ_self k), rfl⟩
              rw [take_snoc hy] at ha
              rcases List.mem_append.1 ha with ha | ha
              · exact hA a ha
              · simp at ha; subst ha; exact h3
            · have hf := fin (asc_split2 hSa hSd (.inr ⟨y, hy, h3⟩))
              refine SlK_intro 0 k rfl rfl (by omega) (by omega) (wd fun _ => rfl) (zs := (S.take k).map DemandV.dat) (by rw [List.map_take]; rfl) ?_
              conv => whnf
              refine a1 _ ?_
              conv => whnf
              refine IxK_map i rfl hx ?_
              conv => whnf
              refine a2 _ ?_
              conv => whnf
              refine SlK_intro k (List.map DemandV.dat S).length rfl rfl (by omega) (by omega) (wd fun _ => rfl) (zs := (S.drop k).map DemandV.dat) (by rw [List.take_length, List.map_drop]) ?_
              conv => whnf
              refine a3 _ ?_
              conv => whnf
              refine KeysK_intro (by kernel_rfl) ?_
              conv => whnf
              refine WrK_i64 (by omega) (by omega) ?_
              conv => whnf
              rw [hf]
              refine ⟨i + 1, ⟨hil, fun _ => hD⟩, Nat.sub_lt_sub_left hil (Nat.lt_succ_self i), ?_⟩
              dsimp only
              rw [show (sortN (l.take (i + 1))).length = i + 1 by rw [sort_len, List.length_take]; omega]
              rfl
          · have hf := fin (asc_split2 hSa hSd (.inl (by omega)))
            refine SlK_intro 0 k rfl rfl (by omega) (by omega) (wd fun _ => rfl) (zs := (S.take k).map DemandV.dat) (by rw [List.map_take]; rfl) ?_
            conv => whnf
            refine a1 _ ?_
            conv => whnf
            refine IxK_map i rfl hx ?_
            conv => whnf
            refine a2 _ ?_
            conv => whnf
            refine SlK_intro k (List.map DemandV.dat S).length rfl rfl (by omega) (by omega) (wd fun _ => rfl) (zs := (S.drop k).map DemandV.dat) (by rw [List.take_length, List.map_drop]) ?_
            conv => whnf
            refine a3 _ ?_
            conv => whnf
            refine KeysK_intro (by kernel_rfl) ?_
            conv => whnf
            refine WrK_i64 (by omega) (by omega) ?_
            conv => whnf
            rw [hf]
            refine ⟨i + 1, ⟨hil, fun _ => hD⟩, Nat.sub_lt_sub_left hil (Nat.lt_succ_self i), ?_⟩
            dsimp only
            rw [show (sortN (l.take (i + 1))).length = i + 1 by rw [sort_len, List.length_take]; omega]
            rfl
      · have es : sortsN l = [] := by unfold sortsN; rw [ifP_f hD]
        have h0 : i = 0 := Nat.eq_zero_of_not_pos fun h => hD (hD0 h)
        subst h0
        rw [es]
        exact ⟨rfl, rfl, rfl, rfl, fun _ h => by simp at h⟩
    · have e2 : l.take i = l := List.take_of_length_le (by omega)
      have es : sortsN l = sortN l := by
        unfold sortsN
        rcases Nat.eq_zero_or_pos i with h0 | h0
        · have : l = [] := List.eq_nil_of_length_eq_zero (by omega)
          subst this
          rcases Classical.em (areDemandsP []) with hD | hD
          · rw [ifP_t hD]
          · rw [ifP_f hD]; rfl
        · rw [ifP_t (hD0 h0)]
      rw [e2, es]
      exact ⟨rfl, rfl, by simp, rfl, demL_flat _⟩

theorem sorts_len (l : List DemandV) : (sortsN l).length ≤ 16 := by
  unfold sortsN
  rcases Classical.em (areDemandsP l) with hD | hD
  · rw [ifP_t hD, sort_len]; exact hD.2
  · rw [ifP_f hD]; simp
theorem sorts_ok {l : List DemandV} (h : okL DemandV.ok l) : okL DemandV.ok (sortsN l) := by
  refine ⟨by have := sorts_len l; omega, fun x hx => ?_⟩
  unfold sortsN at hx
  rcases Classical.em (areDemandsP l) with hD | hD
  · rw [ifP_t hD] at hx; exact h.2 x ((sort_perm l).mem_iff.1 hx)
  · rw [ifP_f hD] at hx; simp at hx

end Go.DL
