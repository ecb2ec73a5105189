/- Contracts of functions of the program, at this seat: what each call returns, by its arguments as data; each states its own conditions. -/
import Derived.Test.YthifncefbpmdiaaPC
namespace Go.DL
set_option maxRecDepth 100000
set_option maxHeartbeats 2000000
set_option linter.unusedSimpArgs false
set_option linter.unusedVariables false
open Go.RowKit Go.Proofs Go.Proofs.Ythifncefbpmdiaa

/-! The pieces of each item. -/
def doneP (lev : Nat → Int) (l i : Nat) (p : Nat) : Prop := lev p < l ∨ (lev p = l ∧ p < i)
noncomputable def wF (E : List EQ) (O : Nat → Prop) (a : Nat) (q : Int) (N : Nat → Int) (lev : Nat → Int) (l i j : Nat) : Int := dlt a q j + partP E O (doneP lev l i) N j
def openP (cat : List ItemV) (Op : ItemV → Prop) (a i : Nat) : Prop := i = a ∨ ∃ y, cat[i]? = some y ∧ Op y
structure PieceOK (E : List EQ) (O : Nat → Prop) (a n : Nat) (q : Int) (N : Nat → Int) (lev : Nat → Int) : Prop where
  sol : SolD E O a q N
  qn : ∀ e ∈ E, 0 ≤ e.2.2
  q0 : 0 ≤ q
  st : ∀ e ∈ E, lev e.1 < lev e.2.1
  lo : ∀ j, 0 ≤ lev j
  hi : ∀ j, lev j ≤ n
  inE : ∀ e ∈ E, e.1 < n ∧ e.2.1 < n
namespace PieceOK
variable {E : List EQ} {O : Nat → Prop} {a n : Nat} {q : Int} {N lev : Nat → Int} (h : PieceOK E O a n q N lev)
include h
theorem dl (j : Nat) : 0 ≤ dlt a q j := by unfold dlt; have := h.q0; split <;> omega
theorem nn (l i j : Nat) : 0 ≤ wF E O a q N lev l i j := by
  have := partP_nn (O := O) (Pr := doneP lev l i) h.qn h.sol.nn j
  have := h.dl j
  unfold wF; omega
theorem eqN (j : Nat) : N j = dlt a q j + partP E O (fun _ => True) N j := h.sol.eq j
theorem le (l i j : Nat) : wF E O a q N lev l i j ≤ N j := by
  have := partP_le (O := O) (Pr := doneP lev l i) (Pr' := fun _ => True) h.qn h.sol.nn (fun _ _ => trivial) j
  rw [h.eqN]; unfold wF; omega
theorem full {l i j : Nat} (hj : lev j ≤ l) : wF E O a q N lev l i j = N j := by
  rw [h.eqN]
  unfold wF
  congr 1
  refine partP_congr fun e he h1 _ _ => ⟨fun _ => trivial, fun _ => .inl ?_⟩
  have := h.st e he
  rw [h1] at this; omega
theorem skip {l i : Nat} (hs : lev i ≠ l ∨ N i = 0 ∨ ¬ O i) (j : Nat) : wF E O a q N lev l (i + 1) j = wF E O a q N lev l i j := by
  have h0 := h.q0
  unfold wF
  congr 1
  refine partP_congr fun e he h1 h2 h3 => ?_
  have hne : lev e.1 = l → e.1 ≠ i := fun h4 h5 => by
    rw [h5] at h2 h3 h4
    rcases hs with h6 | h6 | h6
    · exact h6 h4
    · exact h3 h6
    · exact h6 h2
  unfold doneP
  constructor
  · rintro (h4 | ⟨h4, h5⟩)
    · exact .inl h4
    · exact .inr ⟨h4, by have := hne h4; omega⟩
  · rintro (h4 | ⟨h4, h5⟩)
    · exact .inl h4
    · exact .inr ⟨h4, by omega⟩
theorem step {l i : Nat} (hl : lev i = l) (hO : O i) (j : Nat) : wF E O a q N lev l i j + partI E i N E.length j = wF E O a q N lev l (i + 1) j := by
  have h0 := h.q0
  have h1 := partI_full (E := E) (Pr := doneP lev l i) (N := N) (j := j) hO (by unfold doneP; omega)
  have h2 : partP E O (fun p => doneP lev l i p ∨ p = i) N j = partP E O (doneP lev l (i + 1)) N j := by
    refine partP_congr fun e he _ _ _ => ?_
    unfold doneP
    constructor
    · rintro ((h4 | ⟨h4, h5⟩) | h4)
      · exact .inl h4
      · exact .inr ⟨h4, by omega⟩
      · exact .inr ⟨by rw [h4]; exact hl, by omega⟩
    · rintro (h4 | ⟨h4, h5⟩)
      · exact .inl (.inl h4)
      · by_cases h6 : e.1 = i
        · exact .inr h6
        · exact .inl (.inr ⟨h4, by omega⟩)
  unfold wF
  rw [← h2, ← h1]; omega
theorem row {l : Nat} (j : Nat) : wF E O a q N lev l n j = wF E O a q N lev (l + 1) 0 j := by
  unfold wF
  congr 1
  refine partP_congr fun e he _ _ _ => ?_
  have := (h.inE e he).1
  unfold doneP
  constructor
  · rintro (h4 | ⟨h4, h5⟩)
    · exact .inl (by omega)
    · exact .inl (by omega)
  · rintro (h4 | ⟨h4, h5⟩)
    · by_cases h6 : lev e.1 = l
      · exact .inr ⟨h6, this⟩
      · exact .inl (by omega)
    · omega
theorem start (j : Nat) : wF E O a q N lev 0 0 j = dlt a q j := by
  unfold wF
  have : partP E O (doneP lev 0 0) N j = 0 := sumI_zero fun e he => if_neg fun h1 => by
    have := h.lo e.1
    have := h1.2.2
    unfold doneP at this
    omega
  rw [this]; omega
theorem last (j : Nat) : wF E O a q N lev (n + 1) 0 j = N j := h.full (by have := h.hi j; omega)
theorem selfI {i k : Nat} : partI E i N k i = 0 := sumI_zero fun e he => if_neg fun h1 => by
  have := h.st e (List.mem_of_mem_take he)
  rw [h1.1, h1.2] at this; omega
theorem bound {l i k : Nat} (hl : lev i = l) (hO : O i) (j : Nat) : wF E O a q N lev l i j + partI E i N k j ≤ N j := by
  have h1 := h.step hl hO j
  have h2 := partI_mono (k := k) (j := j) h.qn (h.sol.nn i)
  have h3 := h.le l (i + 1) j
  omega
theorem inn {i k j : Nat} : 0 ≤ partI E i N k j := partI_nn h.qn (h.sol.nn i)
end PieceOK
noncomputable def pieN (cat : List ItemV) (act : List LineV) (Op : ItemV → Prop) (a : Nat) (q : Int) : Nat → Int := solD (edQ cat act) (openP cat Op a) a q cat.length
theorem pie_ok {cat : List ItemV} {act : List LineV} (hA : ActOK cat act act) (Op : ItemV → Prop) (a : Nat) {q : Int} (hq : 0 ≤ q) : PieceOK (edQ cat act) (openP cat Op a) a cat.length q (pieN cat act Op a q) (levOf cat act) := by
  have hlo : ∀ j, 0 ≤ levOf cat act j := fun j => (tight_lev _ _).1 j
  have hhi : ∀ j, levOf cat act j ≤ cat.length := fun j => lev_small (edges_lt (linesIn_of hA.line)) hA.acyc j
  refine ⟨solD_ok hA.strict hlo hhi hA.qty hq, hA.qty, hq, hA.strict, hlo, hhi, fun e he => ?_⟩
  obtain ⟨x, hx, rfl⟩ := List.mem_map.1 he
  have hl := hA.line x hx
  exact ⟨(idx_nat hl.1).2, (idx_nat hl.2.1).2⟩

set_option maxHeartbeats 8000000 in
theorem c_impl_pieces (cat : List ItemV) (hc : okL ItemV.ok cat) (h12 : cat.length ≤ 12) (act : List LineV) (hl : okL LineV.ok act) (h24 : act.length ≤ 24) (hA : ActOK cat act act) (a : Nat) (ha : a < cat.length) (q : Int) (hq0 : 0 ≤ q) (hq1 : q ≤ 100000)
    (f : FuncId) (Op : ItemV → Prop) (hf : ∀ x : ItemV, x.ok → Contract Try.prog f [.d x.dat] (.one (.d (bD (tr (Op x)))))) (r : Res)
    (hr : ((∀ j, j < cat.length → pieN cat act Op a q j ≤ 1000000000) → r = .tup (.own ⟨3, 1, arrF cat.length (fun j => if j = a then 0 else pieN cat act Op a q j)⟩) [bD true]) ∧ (¬ (∀ j, j < cat.length → pieN cat act Op a q j ≤ 1000000000) → r = .tup (.d (.sl [])) [bD false])) :
    Contract Try.prog 110 [.d (lD ItemV.dat cat), .d (lD LineV.dat act), .d (iD (a : Int)), .d (iD q), .fn f] r := by
  refine contract_by hma hTa Try.func110 (by kernel_rfl) (by kernel_rfl) ?_
  have e1 : (List.map ItemV.dat cat).length = cat.length := List.length_map _
  have e2 : (List.map LineV.dat act).length = act.length := List.length_map _
  have hP := pie_ok hA Op a hq0
  have hEl : (edQ cat act).length = act.length := by unfold edQ; rw [List.length_map]
  have hEg : ∀ {t : Nat} {x : LineV}, act[t]? = some x → (edQ cat act)[t]? = some ((idxOf cat x.parent).toNat, (idxOf cat x.part).toNat, x.quantity) := fun {t x} hx => by simp [edQ, hx]
  generalize pieN cat act Op a q = N at hP hr
  generalize hE : edQ cat act = E at hP hEl hEg
  conv => whnf
  refine MkK_intro cat.length (by omega) (by omega) (by omega) ?_
  conv => whnf
  refine IxA_intro a rfl ha ?_
  conv => whnf
  refine setK_intro (xs' := arrF cat.length (wF E (openP cat Op a) a q N (levOf cat act) 0 0)) (by simp; exact ha) ?_ ?_
  · rw [arrF_rep, arrF_set]
    exact arrF_congr fun j _ => hP.start j
  conv => whnf
  refine CallK_intro (c_impl_levels_y cat hc act hl h12 h24 (linesIn_of hA.line) hA.acyc) ?_
  conv => whnf
  generalize levOf cat act = lev at hP ⊢
  have eL := arrF_len cat.length lev
  generalize hO : openP cat Op a = O at hP ⊢
  refine LoopK_intro hma hTa [(0, .pl), (1, .pl), (2, .pl), (4, .pl), (12, .key 23), (13, .fz), (15, .pl)] (fun l : Nat => ⟨[(0, .d (lD ItemV.dat cat)), (1, .d (lD LineV.dat act)), (2, .d (iD a)), (4, .fn f), (12, .av 23 cat.length), (13, .d (.sl (arrF cat.length lev))), (15, .d (iD l))], [(23, some ⟨3, 1, arrF cat.length (wF E O a q N lev l 0)⟩)], []⟩) (fun l => l ≤ cat.length + 1 ∧ ∀ j, j < cat.length → wF E O a q N lev l 0 j ≤ 1000000000) (fun l => cat.length + 2 - l) (by kernel_rfl) ?_ ?_
  · conv => whnf
    refine takeK_full rfl ?_
    conv => whnf
    exact ⟨0, ⟨by omega, fun j _ => by rw [hP.start]; unfold dlt; split <;> omega⟩, rfl⟩
  · intro l ⟨hl1, hb1⟩
    conv => whnf
    refine brLe (fun h => ?_) (fun h => ?_) <;> conv => whnf
    rotate_left
    · have e0 : wF E O a q N lev l 0 = N := by
        have : l = cat.length + 1 := by omega
        rw [this]; exact funext hP.last
      rw [e0] at hb1 ⊢
      refine IxA_intro a rfl ha ?_
      conv => whnf
      refine setK_intro (xs' := arrF cat.length (fun j => if j = a then 0 else N j)) (by rw [arrF_len]; exact ha) (by rw [arrF_set]) ?_
      conv => whnf
      rw [hr.1 hb1]
      exact ⟨⟨rfl, rfl, (arrF_len _ _).symm, rfl⟩, rfl, trivial⟩
    refine LoopK_intro hma hTa [(0, .pl), (1, .pl), (2, .pl), (4, .pl), (12, .key 23), (13, .pl), (15, .pl), (40, .pl), (41, .pl), (42, .pl)] (fun i : Nat => ⟨[(0, .d (lD ItemV.dat cat)), (1, .d (lD LineV.dat act)), (2, .d (iD a)), (4, .fn f), (12, .av 23 cat.length), (13, .d (.sl (arrF cat.length lev))), (15, .d (iD l)), (40, .d (lD ItemV.dat cat)), (41, .d (iD (cat.map ItemV.dat).length)), (42, .d (iD i))], [(23, some ⟨3, 1, arrF cat.length (wF E O a q N lev l i)⟩)], []⟩) (fun i => i ≤ cat.length ∧ ∀ j, j < cat.length → wF E O a q N lev l i j ≤ 1000000000) (fun i => cat.length - i) (by kernel_rfl) ?_ ?_
    · conv => whnf
      exact ⟨0, ⟨by omega, hb1⟩, rfl⟩
    · intro i ⟨hi, hbi⟩
      conv => whnf
      refine brLt (fun h2 => ?_) (fun h2 => ?_) <;> conv => whnf
      rotate_left
      · have ei : i = cat.length := by omega
        have e0 : wF E O a q N lev l i = wF E O a q N lev (l + 1) 0 := by rw [ei]; exact funext hP.row
        rw [e0] at hbi ⊢
        refine WrK_i64 (by omega) (by omega) ?_
        conv => whnf
        exact ⟨l + 1, ⟨by omega, hbi⟩, (by show cat.length + 2 - (l + 1) < cat.length + 2 - l; omega), rfl⟩
      refine IxK_mapLt _ rfl (by omega) (fun y hy => ?_)
      conv => whnf
      have hil := get_lt hy
      have hyo := hc.2 y (get_mem hy)
      have hwi : lev i = l → wF E O a q N lev l i i = N i := fun h3 => hP.full (by omega)
      have hskI : (lev i ≠ l ∨ N i = 0 ∨ ¬ O i) → wF E O a q N lev l (i + 1) = wF E O a q N lev l i := fun hs => funext (hP.skip hs)
      have hbs : ∀ {w : Nat → Int}, w = wF E O a q N lev l i → ∀ j, j < cat.length → w j ≤ 1000000000 := fun e => e ▸ hbi
      refine IxK_arrF i rfl hil ?_
      conv => whnf
      refine brNEq (fun h3 => ?_) (fun h3 => ?_) <;> conv => whnf
      rotate_left
      · refine WrK_i64 (by omega) (by omega) ?_
        conv => whnf
        have e0 := hskI (.inl h3)
        exact ⟨i + 1, ⟨hil, hbs e0⟩, (by show cat.length - (i + 1) < cat.length - i; omega), by dsimp only; rw [e0]; rfl⟩
      refine IxA_intro i rfl hil ?_
      conv => whnf
      refine getK_intro (arrF_get hil) ?_
      conv => whnf
      rw [hwi h3]
      refine brEq (fun h4 => ?_) (fun h4 => ?_) <;> conv => whnf
      · refine WrK_i64 (by omega) (by omega) ?_
        conv => whnf
        have e0 := hskI (.inr (.inl h4))
        exact ⟨i + 1, ⟨hil, hbs e0⟩, (by show cat.length - (i + 1) < cat.length - i; omega), by dsimp only; rw [e0]; rfl⟩
      have hOa : i = a → O i := fun h => by rw [← hO]; exact .inl h
      have hOy : O i ↔ i = a ∨ Op y := by
        rw [← hO]
        refine ⟨fun h => h.imp id fun ⟨z, hz, hp⟩ => ?_, fun h => h.imp id fun hp => ⟨y, hy, hp⟩⟩
        rw [hy] at hz; cases hz; exact hp
      have z0 : ∀ j, partI E i N 0 j = 0 := fun j => by simp [partI, sumI]
      have b0 : wF E O a q N lev l i = fun j => wF E O a q N lev l i j + partI E i N 0 j := funext fun j => by simp [partI, sumI]
      refine brNEq (fun h5 => ?_) (fun h5 => ?_) <;> conv => whnf
      have hOi : O i := hOa (by omega)
      rotate_left
      refine CallK_tr (hf y hyo) (fun h6 => ?_) (fun h6 => ?_) <;> conv => whnf
      have hOi : O i := hOy.2 (.inr h6)
      rotate_left
      · refine WrK_i64 (by omega) (by omega) ?_
        conv => whnf
        have e0 := hskI (.inr (.inr (fun h => (hOy.1 h).elim (fun e => h5 (by rw [e])) h6)))
        exact ⟨i + 1, ⟨hil, hbs e0⟩, (by show cat.length - (i + 1) < cat.length - i; omega), by dsimp only; rw [e0]; rfl⟩
      all_goals
        refine LoopK_intro hma hTa [(0, .pl), (1, .pl), (2, .pl), (4, .pl), (12, .key 23), (13, .pl), (15, .pl), (16, .pl), (17, .key 17), (40, .pl), (41, .pl), (42, .pl), (71, .pl), (72, .pl), (73, .pl)] (fun t : Nat => ⟨[(0, .d (lD ItemV.dat cat)), (1, .d (lD LineV.dat act)), (2, .d (iD a)), (4, .fn f), (12, .av 23 cat.length), (13, .d (.sl (arrF cat.length lev))), (15, .d (iD l)), (16, .d (iD i)), (17, .ae 17 0), (40, .d (lD ItemV.dat cat)), (41, .d (iD (cat.map ItemV.dat).length)), (42, .d (iD i)), (71, .d (lD LineV.dat act)), (72, .d (iD (act.map LineV.dat).length)), (73, .d (iD t))], [(23, some ⟨3, 1, arrF cat.length (fun j => wF E O a q N lev l i j + partI E i N t j)⟩), (17, some ⟨120, 8, [y.dat]⟩)], []⟩) (fun t => t ≤ act.length ∧ ∀ j, j < cat.length → wF E O a q N lev l i j + partI E i N t j ≤ 1000000000) (fun t => act.length - t) (by kernel_rfl) ?_ ?_
        · conv => whnf
          exact ⟨0, ⟨by omega, fun j hj => by have := hbi j hj; rw [z0]; omega⟩, by dsimp only; rw [← b0]; rfl⟩
        · intro t ⟨ht, hbt⟩
          conv => whnf
          refine brLt (fun h7 => ?_) (fun h7 => ?_) <;> conv => whnf
          rotate_left
          · have et : t = E.length := by omega
            have e0 : (fun j => wF E O a q N lev l i j + partI E i N t j) = wF E O a q N lev l (i + 1) := by rw [et]; exact funext (hP.step h3 hOi)
            refine WrK_i64 (by omega) (by omega) ?_
            conv => whnf
            exact ⟨i + 1, ⟨hil, by rw [← e0]; exact hbt⟩, (by show cat.length - (i + 1) < cat.length - i; omega), by dsimp only; rw [e0]; rfl⟩
          refine IxK_mapLt _ rfl (by omega) (fun x hx => ?_)
          conv => whnf
          have htl := get_lt hx
          have hli := hA.line x (get_mem hx)
          have hst := fun j => partI_step (i := i) (j := j) (N := N) (hEg hx)
          dsimp only at hst
          refine brNStr (fun h8 => ?_) (fun h8 => ?_) <;> conv => whnf
          rotate_left
          · have hne : ¬ (idxOf cat x.parent).toNat = i := fun e => h8 ((idx_code hA.ct hy hli.1).2 e)
            have e0 : (fun j => wF E O a q N lev l i j + partI E i N (t + 1) j) = fun j => wF E O a q N lev l i j + partI E i N t j := funext fun j => by rw [hst, if_neg (fun h => hne h.2), Int.add_zero]
            refine WrK_i64 (by omega) (by omega) ?_
            conv => whnf
            exact ⟨t + 1, ⟨htl, fun j hj => by have := hbt j hj; rw [← congrFun e0 j] at this; exact this⟩, (by show act.length - (t + 1) < act.length - t; omega), by dsimp only; rw [e0]; rfl⟩
          have hpi : (idxOf cat x.parent).toNat = i := (idx_code hA.ct hy hli.1).1 h8
          obtain ⟨hj1, hjl⟩ := idx_nat hli.2.1
          generalize hjj : (idxOf cat x.part).toNat = j0 at hj1 hjl hst
          refine CallK_intro (c_impl_FindItem _ hc _) ?_
          conv => whnf
          refine IxA_intro j0 hj1 hjl ?_
          conv => whnf
          refine getK_intro (arrF_get hjl) ?_
          conv => whnf
          refine IxA_intro i rfl hil ?_
          conv => whnf
          refine getK_intro (arrF_get hil) ?_
          conv => whnf
          rw [show wF E O a q N lev l i i + partI E i N t i = N i from by rw [hwi h3, hP.selfI]; omega]
          have hq2 : 1 ≤ x.quantity ∧ x.quantity ≤ 1000 := hli.2.2.2.1
          have hN1 : 0 ≤ N i := hP.sol.nn i
          have hN2 : N i ≤ 1000000000 := by have := hbi i hil; rw [hwi h3] at this; exact this
          have hm2 := Int.mul_le_mul hq2.2 hN2 hN1 (by omega : (0 : Int) ≤ 1000)
          have hm1 := Int.mul_nonneg (by omega : 0 ≤ x.quantity) hN1
          have hmc : N i * x.quantity = x.quantity * N i := Int.mul_comm _ _
          have hw1 := hP.nn l i j0
          have hw2 := hP.inn (i := i) (k := t) (j := j0)
          have hw3 := hbt j0 hjl
          refine WrK_i64 (by omega) (by omega) ?_
          conv => whnf
          refine WrK_i64 (by omega) (by omega) ?_
          conv => whnf
          have e0 : (arrF cat.length (fun j => wF E O a q N lev l i j + partI E i N t j)).set j0 (iD (wF E O a q N lev l i j0 + partI E i N t j0 + N i * x.quantity)) = arrF cat.length (fun j => wF E O a q N lev l i j + partI E i N (t + 1) j) := by
            rw [arrF_set]
            refine arrF_congr fun j _ => ?_
            by_cases hj : j = j0
            · rw [if_pos hj, hj, hst, if_pos ⟨rfl, hpi⟩]; omega
            · rw [if_neg hj, hst, if_neg (fun h => hj h.1.symm)]; omega
          refine IxA_intro j0 hj1 hjl ?_
          conv => whnf
          refine setK_intro (by rw [arrF_len]; exact hjl) e0.symm ?_
          conv => whnf
          refine IxA_intro j0 hj1 hjl ?_
          conv => whnf
          refine getK_intro (arrF_get hjl) ?_
          conv => whnf
          refine brLt (fun h9 => ?_) (fun h9 => ?_) <;> conv => whnf
          · have hov : ¬ (∀ j, j < cat.length → N j ≤ 1000000000) := fun hh => by
              have h10 := hP.bound h3 hOi (k := t + 1) j0
              have h11 := hh j0 hjl
              omega
            rw [hr.2 hov]
            exact ⟨rfl, rfl, trivial⟩
          · refine WrK_i64 (by omega) (by omega) ?_
            conv => whnf
            refine ⟨t + 1, ⟨htl, fun j hj => ?_⟩, (by show act.length - (t + 1) < act.length - t; omega), rfl⟩
            by_cases hj0 : j = j0
            · rw [hj0]; exact h9
            · have := hbt j hj
              rw [hst, if_neg (fun h => hj0 h.1.symm)]; omega

end Go.DL
