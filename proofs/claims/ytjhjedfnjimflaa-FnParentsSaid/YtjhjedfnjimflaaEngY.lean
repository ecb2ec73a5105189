/- Part of an evaluator of Go code on plain data, proved sound for the model: lemmas alone, for every program; each states its own conditions. -/
import Derived.Test.YtjhjedfnjimflaaEngX
namespace Go.DL
open Go.RowKit

/-! ### Functions to which an own array is lent, and functions whose result is known by a property -/
def lvS : Option Arr → S
  | some ⟨_, _, xs⟩ => .av 100000 xs.length
  | none => .junk
def slotL (A : Option Arr) : Option A2 → S
  | some (.d x) => .d x
  | some (.fn f) => .fn f
  | some .lv => lvS A
  | some .lp => .ae 100000 0
  | none => .junk
def initL (A : Option Arr) : List A2 → Nat → List (Nat × S)
  | [], _ => []
  | .d x :: r, i => (i, .d x) :: initL A r (i + 1)
  | .fn f :: r, i => (i, .fn f) :: initL A r (i + 1)
  | .lv :: r, i => (i, lvS A) :: initL A r (i + 1)
  | .lp :: r, i => (i, .ae 100000 0) :: initL A r (i + 1)
def initC : Option Arr → List (Nat × Option Arr)
  | some A => [(100000, some A)]
  | none => []
def lpB (A : Option Arr) : List A2 → Bool
  | [] => true
  | .lp :: r => (match A with | some ⟨_, _, _ :: _⟩ => lpB A r | _ => false)
  | .lv :: r => (match A with | some _ => lpB A r | _ => false)
  | _ :: r => lpB A r
theorem lpB_spec {A : Option Arr} : ∀ {as : List A2}, lpB A as = true → ∀ (j : Nat) (a : A2), as[j]? = some a → (a = .lp → ∃ A0, A = some A0 ∧ 0 < A0.xs.length) ∧ (a = .lv → ∃ A0, A = some A0)
  | [], _, j, a, h => by simp at h
  | x :: r, h, j, a, hj => by
    have tl : lpB A r = true := by
      cases x <;> unfold lpB at h <;> first | exact h | (split at h <;> first | exact h | cases h)
    cases j with
    | zero =>
      simp at hj; subst hj
      cases x with
      | d y => exact ⟨(fun h => by cases h), (fun h => by cases h)⟩
      | fn f => exact ⟨(fun h => by cases h), (fun h => by cases h)⟩
      | lv =>
        refine ⟨(fun h => by cases h), fun _ => ?_⟩
        unfold lpB at h
        split at h
        · exact ⟨_, rfl⟩
        · cases h
      | lp =>
        refine ⟨fun _ => ?_, fun h => by cases h⟩
        unfold lpB at h
        split at h
        · exact ⟨_, rfl, by simp⟩
        · cases h
    | succ j => exact lpB_spec tl j a (by simpa using hj)

def retDs (σ : St) : List S → List D → Prop
  | [], [] => True
  | s :: ss, y :: ys => toDS σ s fun x ks => memB 100000 ks = false ∧ x = y ∧ retDs σ ss ys
  | _, _ => False
def retKL (σ : St) (ss : List S) (r : Res) : Prop :=
  match ss, r with
  | [s], .one (.d y) => retDs σ [s] [y]
  | [s], .one (.own A) => retOne σ s (.own A)
  | [s], .one (.ptr A) => retOne σ s (.ptr A)
  | s :: s2 :: ss, .tup (.d y) rest => retDs σ (s :: s2 :: ss) (y :: rest)
  | s :: s2 :: ss, .tup (.own A) rest => retOne σ s (.own A) ∧ retSc (s2 :: ss) rest
  | _, _ => False
def retL (σ : St) (A : Option Arr) (Rp : Res → List D → Prop) (ss : List S) : Prop :=
  match A with
  | none => ∃ r, Rp r [] ∧ retKL σ ss r
  | some ⟨e, sz, xs0⟩ => (match lkC 100000 σ.c, memB 100000 σ.sh with
    | some (some ⟨e', sz', xs⟩), false => e' = e ∧ sz' = sz ∧ xs.length = xs0.length ∧ ∃ r, Rp r xs ∧ retKL σ ss r
    | _, _ => False)
def finL (T : Tys) (rvs : List ResultVar) (A : Option Arr) (Rp : Res → List D → Prop) (e : Exit) (σ : St) : Prop :=
  match e with
  | .normal => resL T σ rvs fun ss => retL σ A Rp ss
  | .ret => resL T σ rvs fun ss => retL σ A Rp ss
  | _ => False

theorem retDs_spec {σ : St} : ∀ {ss : List S} {ys : List D}, retDs σ ss ys → ∃ ks, ToDs σ.ab ss ys ks ∧ 100000 ∉ ks
  | [], [], _ => ⟨[], .nil, by simp⟩
  | s :: ss, y :: ys, h => by
    obtain ⟨x, ks, h1, hm, e, h2⟩ := toDS_spec (show toDS σ s fun x ks => memB 100000 ks = false ∧ x = y ∧ retDs σ ss ys from h)
    subst e
    obtain ⟨ks', h3, h4⟩ := retDs_spec h2
    refine ⟨_, .cons h1 h3, fun hmem => ?_⟩
    rcases List.mem_append.1 hmem with h5 | h5
    · rw [memB_iff] at hm
      have : ks.contains 100000 = true := by simpa using h5
      rw [hm] at this; cases this
    · exact h4 h5
  | [], _ :: _, h => h.elim
  | _ :: _, [], h => h.elim

section
variable {P : Program} {T : Tys}
theorem contract_ofL (R : List Nat) {fn : Func} {c : Code} {f : FuncId} {as : List A2} {A : Option Arr} {Rp : Res → List D → Prop} (hm : P.follows .mixedOrders = true) (hT : TOK P T) (hf : P.funcs[f]? = some fn) (hb : fn.body = some c) (hn : (fn.name == "runtime.NumGoroutine") = false)
    (hcode : codeBR fn.ntmps R c = true) (hlen : as.length ≤ fn.ntmps) (hn5 : fn.ntmps ≤ 100000) (hlp : lpB A as = true) (h : dCR P T fn.ntmps R c (finL T fn.results.toList A Rp) ⟨initL A as 0, initC A, []⟩) : LContract P f as A Rp := by
  refine ⟨enters_of hf (by rw [hb]; rfl) hn, fun w M γ vs hmw hlent hsz hrep => ?_⟩
  refine calls_of_wp hf hb ?_
  have hinit : ∀ (l : List A2) (i t : Nat), lkS t (initL A l i) = if i ≤ t then slotL A l[t - i]? else .junk := by
    intro l
    induction l with
    | nil => intro i t; simp [initL, lkS, slotL]
    | cons a l ih =>
      intro i t
      have fin : ∀ s, slotL A (some a) = s → lkS t ((i, s) :: initL A l (i + 1)) = if i ≤ t then slotL A (a :: l)[t - i]? else .junk := fun s hs => by
        rw [lkS_cons, ih]
        by_cases h1 : t = i
        · subst h1
          rw [if_pos rfl, if_pos (Nat.le_refl _), Nat.sub_self]
          exact hs.symm
        · rw [if_neg h1]
          by_cases h2 : i ≤ t
          · have e : t - i = (t - (i + 1)) + 1 := by omega
            rw [if_pos h2, if_pos (by omega), e, List.getElem?_cons_succ]
          · rw [if_neg h2, if_neg (by omega)]
      cases a with
      | d x => exact fin (.d x) rfl
      | fn g => exact fin (.fn g) rfl
      | lv => exact fin (lvS A) rfl
      | lp => exact fin (.ae 100000 0) rfl
  let X : Env := ⟨fun g => (∃ A0, A = some A0) ∧ γ.ownBlock = some g, fun k => if k = 100000 then A.map (fun _ => γ) else none⟩
  have hc0 : ∀ k B, (St.ab ⟨initL A as 0, initC A, []⟩).c k = some B → k = 100000 ∧ A = some B := fun k B hB => by
    cases A with
    | none => simp [St.ab, initC, lkC] at hB
    | some A0 =>
      simp only [St.ab, initC, lkC_cons] at hB
      by_cases hk : k = 100000
      · rw [if_pos hk] at hB
        exact ⟨hk, hB⟩
      · rw [if_neg hk] at hB
        simp [lkC] at hB
  have hus : ∀ A0, A = some A0 → (St.ab ⟨initL A as 0, initC A, []⟩).us 100000 = true := fun A0 e => by
    subst e
    simp [St.ab, initC, lkC_cons]
  have hs0 : Sim X w M fn.ntmps (St.ab ⟨initL A as 0, initC A, []⟩) { tmps := vs ++ Array.replicate (fn.ntmps - vs.size) undef, defers := [] } w := by
    refine ⟨M, fun _ => γ, ⟨rfl, by simp; omega, rfl, rfl, rfl, Nat.le_refl _, fun _ _ _ => rfl, Mem.le_refl M, hmw, fun _ _ h => .inl h, fun t => ?_, fun k B hB => ?_, fun k k' B B' g hB hB' _ _ => ?_, fun k v hk => ?_⟩⟩
    · change RepS _ _ _ (lkS t (initL A as 0)) _
      rw [hinit]
      simp only [Nat.zero_le, if_true, Nat.sub_zero]
      cases ha : as[t]? with
      | none => trivial
      | some a =>
        have ht := (List.getElem?_eq_some_iff.1 ha).1
        have hr := hrep t a ha
        have hlpa := lpB_spec hlp t a ha
        have e : (vs ++ Array.replicate (fn.ntmps - vs.size) undef).getD t undef = vs.getD t undef := by
          simp [Array.getElem?_append_left (show t < vs.size by omega)]
        cases a with
        | d x => show RepS M _ _ (.d x) _; rw [e]; exact hr
        | fn g => show RepS M _ _ (.fn g) _; rw [e]; exact hr
        | lv =>
          obtain ⟨A0, hA0⟩ := hlpa.2 rfl
          subst hA0
          show RepS M _ _ (.av 100000 A0.xs.length) _
          rw [e]
          refine ⟨hus A0 rfl, fun B hB => ?_⟩
          obtain ⟨_, hB⟩ := hc0 _ B hB
          cases hB
          refine ⟨Nat.le_refl _, ?_⟩
          rw [show vs.getD t undef = γ from hr]
          obtain ⟨cs, hown, _⟩ := (hlent A0 rfl).own
          rcases own_form hown with ⟨e1, h0⟩ | ⟨g, cap, e1, _, _⟩
          · rw [e1]; simp [cutV, h0]
          · rw [e1]; rfl
        | lp =>
          obtain ⟨A0, hA0, hpos⟩ := hlpa.1 rfl
          subst hA0
          show RepS M _ _ (.ae 100000 0) _
          rw [e]
          refine ⟨hus A0 rfl, fun B hB => ?_⟩
          obtain ⟨_, hB⟩ := hc0 _ B hB
          cases hB
          obtain ⟨g, hg, hv⟩ := (show RepA2 M γ .lp (vs.getD t undef) from hr)
          exact ⟨hpos, g, hg, by rw [hv]; simp⟩
    · obtain ⟨rfl, rfl⟩ := hc0 k B hB
      obtain ⟨⟨cs, hown, hcs⟩, hnm, hpos⟩ := hlent B rfl
      exact ⟨hus B rfl, ⟨⟨cs, hown, hcs, (fun g hg off sp u hu => by rw [hnm g hg off sp] at hu; cases hu)⟩, hpos, fun g hg => .inr ⟨⟨B, rfl⟩, hg⟩⟩⟩
    · rw [(hc0 k B hB).1, (hc0 k' B' hB').1]
    · have hk' : (if k = 100000 then A.map (fun _ => γ) else none) = some v := hk
      split at hk'
      · rename_i e
        refine ⟨by omega, by omega, fun B hB => ?_⟩
        obtain ⟨_, rfl⟩ := hc0 k B hB
        simpa using hk'
      · cases hk'
  refine wp_mono (good_of_dCR hm hT fn.ntmps R c hcode h _ w M _ w hs0) ?_
  rintro e ac' w' ⟨σ', ⟨M', γ', hs'⟩, hq⟩
  have fin : resL T σ' fn.results.toList (fun ss => retL σ' A Rp ss) → ac'.defers = [] ∧ ∃ v, (results fn ac'.tmps).run P w' = .ok v w' ∧ LEnds w M γ A Rp (.returned v) w' := by
    intro hq
    refine ⟨hs'.dfr, ?_⟩
    obtain ⟨ss, vl, hK, hrun, hl, hreps⟩ := resL_spec hT hs' hq
    have hres : (results fn ac'.tmps).run P w' = .ok (if h : vl.toArray.size = 1 then vl.toArray[0] else .tuple vl.toArray) w' := by
      have e : (fn.results.mapM (resRun ac')).run P w' = .ok vl.toArray w' := by
        rw [Array.mapM_eq_mapM_toList, Sem.run_map, hrun]; rfl
      have e2 : results fn ac'.tmps = (fn.results.mapM (resRun ac') >>= fun vs => pure (if h : vs.size = 1 then vs[0] else .tuple vs)) := by
        unfold results
        congr 1
      rw [e2, Sem.run_bind, e]
      rfl
    -- the lent array
    have hlast : ∃ r xs, Rp r xs ∧ retKL σ' ss r ∧ ∀ A0, A = some A0 → xs.length = A0.xs.length ∧ σ'.ab.c 100000 = some ⟨A0.e, A0.sz, xs⟩ ∧ σ'.ab.sh 100000 = false := by
      unfold retL at hK
      split at hK
      · obtain ⟨r, h1, h2⟩ := hK
        exact ⟨r, [], h1, h2, fun A0 e => by cases e⟩
      · rename_i e sz xs0
        split at hK
        case h_2 => exact hK.elim
        rename_i e' sz' xs hl2 hsh
        obtain ⟨rfl, rfl, hle, r, h1, h2⟩ := hK
        exact ⟨r, xs, h1, h2, fun A0 e => by cases e; exact ⟨hle, live hl2, hsh⟩⟩
    obtain ⟨r, xs, hR, hret, hlst⟩ := hlast
    have hX : ∀ k B g, σ'.ab.c k = some B → k ≠ 100000 → (γ' k).ownBlock = some g → ¬ X.x g := fun k B g hB hk hg hx => by
      obtain ⟨⟨A0, hA0⟩, hgg⟩ := hx
      obtain ⟨_, hc5, _⟩ := hlst A0 hA0
      have hp := (hs'.pin 100000 γ (by simp [X, hA0])).2.2 _ hc5
      exact hk (hs'.di k 100000 B _ g hB hc5 hg (by rw [hp]; exact hgg))
    have after : ∀ v M'' (ks : List Nat), 100000 ∉ ks → SimW X w M fn.ntmps (σ'.ab.shares ks) ac' w' M'' γ' → RepRes w w' M'' r v → LEnds w M γ A Rp (.returned v) w' := fun v M'' ks hks h2 hrr => by
      obtain ⟨e1, e2, e3⟩ := shares_c σ'.ab ks
      refine ⟨v, M'', r, xs, hR, rfl, ⟨h2.os, h2.tape, h2.output, h2.hsz, fun k hk hne => h2.frame k hk (fun hx => ?_), h2.m0, h2.mw, fun a u hu => ?_, fun A0 hA0 => ?_⟩, hrr⟩
      · obtain ⟨⟨A0, hA0⟩, hg⟩ := hx
        exact hne A0 hA0 hg
      · rcases h2.mn a u hu with h3 | h3 | ⟨⟨A0, hA0⟩, hg⟩
        · exact .inl h3
        · exact .inr h3
        · exfalso
          obtain ⟨_, hc5, hsh⟩ := hlst A0 hA0
          have hc6 : (σ'.ab.shares ks).c 100000 = some ⟨A0.e, A0.sz, xs⟩ := by rw [e1]; exact hc5
          have hp := (h2.pin 100000 γ (by simp [X, hA0])).2.2 _ hc6
          obtain ⟨_, ⟨⟨cs, _, _, hMn⟩, _, _⟩⟩ := h2.ow 100000 _ hc6
          have := (hMn a.block (by rw [hp]; exact hg) a.off a.spot u hu).1
          rw [shares_sh, hsh, Bool.false_or] at this
          exact hks (by simpa using this)
      · obtain ⟨hle, hc5, hsh⟩ := hlst A0 hA0
        have hc6 : (σ'.ab.shares ks).c 100000 = some ⟨A0.e, A0.sz, xs⟩ := by rw [e1]; exact hc5
        have hp := (h2.pin 100000 γ (by simp [X, hA0])).2.2 _ hc6
        obtain ⟨_, ⟨⟨cs, hown, hcs, hMn⟩, hpos, _⟩⟩ := h2.ow 100000 _ hc6
        rw [hp] at hown hMn
        refine ⟨hle, ⟨⟨cs, hown, hcs⟩, fun g hg off sp => ?_, hpos⟩⟩
        cases hmm : M'' ⟨g, off, sp⟩ with
        | none => rfl
        | some u =>
          exfalso
          have := (hMn g hg off sp u hmm).1
          rw [shares_sh, hsh, Bool.false_or] at this
          exact hks (by simpa using this)
    unfold retKL at hret
    split at hret
    · rename_i s y
      match vl, hl, hreps, hres with
      | [v], _, hreps, hres =>
        obtain ⟨ks, h1, h2⟩ := retDs_spec hret
        obtain ⟨M'', h3, hle, hlen2, hrep2⟩ := SimW.toDs h1 rfl hs' (vs := fun j => [v].getD j undef) hreps
        exact ⟨v, hres, after v M'' ks h2 h3 (hrep2 0 y rfl)⟩
    · rename_i s B
      match vl, hl, hreps, hres with
      | [v], _, hreps, hres => exact ⟨v, hres, after v M' [] (by simp) hs' (ownRes hs' hX hret (fun _ h => by cases h) (hreps 0 s rfl))⟩
    · rename_i s B
      match vl, hl, hreps, hres with
      | [v], _, hreps, hres => exact ⟨v, hres, after v M' [] (by simp) hs' (ownRes hs' hX hret (fun _ h => by cases h) (hreps 0 s rfl))⟩
    · rename_i s s2 ss y rest
      have hne : ¬ vl.toArray.size = 1 := by simp [hl]
      rw [dif_neg hne] at hres
      obtain ⟨ks, h1, h2⟩ := retDs_spec hret
      obtain ⟨M'', h3, hle, hlen2, hrep2⟩ := SimW.toDs h1 rfl hs' (vs := fun j => vl.getD j undef) hreps
      refine ⟨_, hres, after _ M'' ks h2 h3 ⟨vl.toArray, rfl, ?_, ?_, fun j z hz => ?_⟩⟩
      · simp only [List.length_cons] at hlen2
        simp [hl]
        omega
      · have := hrep2 0 y rfl
        simpa [RepR1] using this
      · have := hrep2 (j + 1) z (by simpa using hz)
        simpa using this
    · rename_i s s2 ss B rest
      have hne : ¬ vl.toArray.size = 1 := by simp [hl]
      rw [dif_neg hne] at hres
      obtain ⟨h1, h2⟩ := hret
      obtain ⟨us, e1, e2⟩ := retSc_spec h2
      subst e2
      have hlen3 : us.length = ss.length + 1 := by have := congrArg List.length e1; simpa using this.symm
      refine ⟨_, hres, after _ M' [] (by simp) hs' ⟨vl.toArray, rfl, by simp [hl, hlen3], ?_, fun j z hz => ?_⟩⟩
      · have := ownRes hs' hX h1 (fun _ h => by cases h) (hreps 0 s rfl)
        simpa using this
      · rw [List.getElem?_map] at hz
        cases hu : us[j]? with
        | none => simp [hu] at hz
        | some u =>
          simp [hu] at hz; subst hz
          have h5 : (s :: s2 :: ss)[j + 1]? = some (.d (.sc u)) := by rw [List.getElem?_cons_succ, e1]; simp [hu]
          have := hreps (j + 1) _ h5
          simpa [RepS] using this
    · exact hret.elim
  cases e with
  | normal => exact fin hq
  | ret => exact fin hq
  | _ => exact hq.elim
theorem contract_byL (R : List Nat) {fn : Func} {f : FuncId} {as : List A2} {A : Option Arr} {Rp : Res → List D → Prop} (hm : P.follows .mixedOrders = true) (hT : TOK P T) (hf : P.funcs[f]? = some fn) (hb : fnBR R fn = true) (hlen : (Nat.ble as.length fn.ntmps && Nat.ble fn.ntmps 100000 && lpB A as) = true)
    (h : dCR P T fn.ntmps R (bodyOf fn) (finL T fn.results.toList A Rp) ⟨initL A as 0, initC A, []⟩) : LContract P f as A Rp := by
  simp only [fnBR, Bool.and_eq_true, Bool.not_eq_true'] at hb hlen
  obtain ⟨⟨h1, h2⟩, h3⟩ := hb
  obtain ⟨c, hc⟩ := Option.isSome_iff_exists.1 h1
  have e : bodyOf fn = c := by unfold bodyOf; rw [hc]
  rw [e] at h h3
  exact contract_ofL R hm hT hf hc h2 h3 (Nat.le_of_ble_eq_true hlen.1.1) (Nat.le_of_ble_eq_true hlen.1.2) hlen.2 h
end
end Go.DL
