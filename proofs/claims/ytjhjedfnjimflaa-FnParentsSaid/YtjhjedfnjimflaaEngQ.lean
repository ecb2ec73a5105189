/- Part of an evaluator of Go code on plain data, proved sound for the model: lemmas alone, for every program; each states its own conditions. -/
import Derived.Test.YtjhjedfnjimflaaEngP
import Derived.Deep.LoopGhost
namespace Go.DL
open Go.RowKit
section
variable {P : Program} {T : Tys} {n : Nat}

/-! ### Loops -/
def loopQ {α : Type} (keep : List (Nat × Kp)) (st : α → St) (ok : α → Prop) (μ : α → Nat) (m : Nat) (Q : Exit → St → Prop) (e : Exit) (σ : St) : Prop :=
  match e with
  | .normal => normK keep σ [] fun σ' => ∃ a, ok a ∧ μ a < m ∧ σ' = st a
  | e => Q e σ

theorem LoopK_introR (R : List Nat) (hm : P.follows .mixedOrders = true) (hT : TOK P T) {α : Type} {c : Code} {Q : Exit → St → Prop} {σ : St} (keep : List (Nat × Kp)) (st : α → St) (ok : α → Prop) (μ : α → Nat) (hb : codeBR n R c = true)
    (h0 : normK keep σ [] fun σ' => ∃ a, ok a ∧ σ' = st a) (hr : ∀ a, ok a → dCR P T n R c (loopQ keep st ok μ (μ a) Q) (st a)) : LoopK P n c Q σ := by
  refine ⟨?_⟩
  intro X w0 M0 ac w hs
  obtain ⟨σ', hw, a0, ha0, rfl⟩ := normK_weak h0
  refine wp_loop_ghost (fun m ac w => ∃ a, ok a ∧ μ a = m ∧ Sim X w0 M0 n (st a).ab ac w) (μ a0) ⟨a0, ha0, rfl, hw _ _ _ _ _ _ hs⟩ ?_
  rintro m ac w ⟨a, ha, rfl, hs⟩
  refine wp_mono (good_of_dCR hm hT n R c hb (hr a ha) X w0 M0 ac w hs) ?_
  rintro e ac' w' ⟨σ', h1, h2⟩
  cases e with
  | normal =>
    obtain ⟨σ'', hw, a', ha', hlt, rfl⟩ := normK_weak (show normK keep σ' [] _ from h2)
    exact ⟨μ a', hlt, a', ha', rfl, hw _ _ _ _ _ _ h1⟩
  | _ => exact ⟨σ', h1, h2⟩
theorem LoopK_intro (hm : P.follows .mixedOrders = true) (hT : TOK P T) {α : Type} {c : Code} {Q : Exit → St → Prop} {σ : St} (keep : List (Nat × Kp)) (st : α → St) (ok : α → Prop) (μ : α → Nat) (hb : codeB n c = true)
    (h0 : normK keep σ [] fun σ' => ∃ a, ok a ∧ σ' = st a) (hr : ∀ a, ok a → dC P T n c (loopQ keep st ok μ (μ a) Q) (st a)) : LoopK P n c Q σ := LoopK_introR [] hm hT keep st ok μ hb h0 hr

/-! ### A whole function -/
def initS : List A1 → Nat → List (Nat × S)
  | [], _ => []
  | .d x :: r, i => (i, .d x) :: initS r (i + 1)
  | .fn f :: r, i => (i, .fn f) :: initS r (i + 1)

def resS (σ : St) (rv : ResultVar) (K : S → Prop) : Prop :=
  match rv with
  | .tmp t => forceS (lkS t σ.s) K
  | .cell a ty => (match tyOf ty T, lkS a σ.s with
    | some ty', .ae k i => (match lkC k σ.c with
      | some (some A) => getK A.xs i fun x => fitK ty' x (K (.d x))
      | _ => False)
    | _, _ => False)
def resL (T : Tys) (σ : St) : List ResultVar → (List S → Prop) → Prop
  | [], K => K []
  | rv :: r, K => resS (T := T) σ rv fun s => resL T σ r fun ss => K (s :: ss)

def retOne (σ : St) (s : S) (r : R1) : Prop :=
  match r with
  | .d y => toDS σ s fun x _ => x = y
  | .own ⟨e, sz, xs⟩ => (match s with
    | .av k m => (match lkC k σ.c, memB k σ.sh, Nat.beq k 100000 with
      | some (some ⟨e', sz', ys⟩), false, false => e' = e ∧ sz' = sz ∧ m = ys.length ∧ ys = xs
      | _, _, _ => False)
    | _ => False)
  | .ptr ⟨e, sz, xs⟩ => (match s with
    | .ae k 0 => (match lkC k σ.c, memB k σ.sh, Nat.beq k 100000 with
      | some (some ⟨e', sz', ys⟩), false, false => e' = e ∧ sz' = sz ∧ 0 < ys.length ∧ ys = xs
      | _, _, _ => False)
    | _ => False)
def retRest (σ : St) : List S → List D → Prop
  | [], [] => True
  | s :: ss, y :: ys => toDS σ s fun x _ => x = y ∧ retRest σ ss ys
  | _, _ => False
def retSc : List S → List D → Prop
  | [], [] => True
  | .d (.sc v) :: ss, y :: ys => D.sc v = y ∧ retSc ss ys
  | _, _ => False

def retK (σ : St) (ss : List S) (r : Res) : Prop :=
  match ss, r with
  | [s], .one r1 => retOne σ s r1
  | s :: s2 :: ss, .tup (.d y) rest => toDS σ s fun x _ => x = y ∧ retRest σ (s2 :: ss) rest
  | s :: s2 :: ss, .tup (.own A) rest => retOne σ s (.own A) ∧ retSc (s2 :: ss) rest
  | _, _ => False

def finQ (T : Tys) (rvs : List ResultVar) (r : Res) (e : Exit) (σ : St) : Prop :=
  match e with
  | .normal => resL T σ rvs fun ss => retK σ ss r
  | .ret => resL T σ rvs fun ss => retK σ ss r
  | _ => False

theorem enters_of {f : FuncId} {fn : Func} (hf : P.funcs[f]? = some fn) (hb : fn.body.isNone = false) (hn : (fn.name == "runtime.NumGoroutine") = false) : Enters P f := by
  intro args w
  simp only [callFunc, Sem.run_bind, run_program, Result.andThen_ok, hf, hn, hb, Bool.false_eq_true, if_false, Sem.run_pure]

section
variable {X : Env} {w0 : World} {M0 : Mem} {ac : Act} {w : World} {M : Mem} {γ : Nat → Value} {σ : St}

def resRun (ac : Act) (rv : ResultVar) : Sem Value :=
  match rv with
  | .tmp t => pure (ac.tmps.getD t undef)
  | .cell a t => do loadVar t (← asAddr (ac.tmps.getD a undef))

theorem resS_spec (hT : TOK P T) (h : SimW X w0 M0 n σ.ab ac w M γ) {rv : ResultVar} {K : S → Prop} (hr : resS (T := T) σ rv K) : ∃ s v, K s ∧ (resRun ac rv).run P w = .ok v w ∧ RepS M σ.ab γ s v := by
  cases rv with
  | tmp t =>
    have hr : forceS (lkS t σ.s) K := hr
    rw [forceS_eq] at hr
    exact ⟨_, _, hr, rfl, h.slots t⟩
  | cell a ty =>
    unfold resS at hr
    simp only at hr
    split at hr
    case h_2 => exact hr.elim
    rename_i ty' k i hty hs
    split at hr
    case h_2 => exact hr.elim
    rename_i A hl
    obtain ⟨x, hx, hr⟩ := getK_iff.1 hr
    obtain ⟨hf, hr⟩ := fitK_iff.1 hr
    have hsl := h.slots a
    rw [show σ.ab.s a = .ae k i from hs] at hsl
    obtain ⟨_, g, hg, hv⟩ := hsl.2 A (live hl)
    obtain ⟨cs, hcs, hcell⟩ := h.cells (live hl) hg
    obtain ⟨hw1, hel⟩ := hcs.2 i x hx
    obtain ⟨v, hrun, hrep⟩ := loadAny (P := P) (w := w) (M := M) (hT _ (tyOf_mem hty)) hf (ad := ⟨g, i * A.sz, none⟩) (fun hyc => by obtain ⟨v, a, b⟩ := hel.1 hyc; exact ⟨v, (hcell _ _ a).1, b⟩)
      (fun fs hfs j f hj => by obtain ⟨c, v, a, b⟩ := hel.2 fs hfs j f hj; exact ⟨c, v, by rw [Addr.add_lit]; exact (hcell _ _ a).1, b⟩)
    refine ⟨.d x, v, hr, ?_, hrep⟩
    simp only [resRun, hv, asAddr, Sem.run_bind, Sem.run_pure, Result.andThen_ok]
    simpa [Instr.loadAt, Instr.sureAddr] using hrun

theorem resL_spec (hT : TOK P T) (h : SimW X w0 M0 n σ.ab ac w M γ) : ∀ {l : List ResultVar} {K : List S → Prop}, resL T σ l K → ∃ ss vs, K ss ∧ (l.mapM (resRun ac)).run P w = .ok vs w ∧ vs.length = ss.length ∧ ∀ (j : Nat) (s : S), ss[j]? = some s → RepS M σ.ab γ s (vs.getD j undef)
  | [], K, hr => ⟨[], [], hr, rfl, rfl, fun j s hs => by simp at hs⟩
  | rv :: l, K, hr => by
    obtain ⟨s, v, hr, h1, h2⟩ := resS_spec hT h hr
    obtain ⟨ss, vs, hK, h3, h4, h5⟩ := resL_spec hT h hr
    refine ⟨s :: ss, v :: vs, hK, ?_, by simp [h4], fun j s' hs' => ?_⟩
    · rw [List.mapM_cons, Sem.run_bind, h1]
      simp only [Result.andThen_ok, Sem.run_bind, h3, Sem.run_pure]
    · cases j with
      | zero => simp at hs'; subst hs'; exact h2
      | succ j => exact h5 j s' (by simpa using hs')

theorem retRest_spec : ∀ {ss : List S} {ys : List D}, retRest σ ss ys → ∃ ks, ToDs σ.ab ss ys ks
  | [], [], _ => ⟨[], .nil⟩
  | s :: ss, y :: ys, h => by
    obtain ⟨x, ks, h1, e, h2⟩ := toDS_spec (show toDS σ s fun x _ => x = y ∧ retRest σ ss ys from h)
    subst e
    obtain ⟨ks', h3⟩ := retRest_spec h2
    exact ⟨_, .cons h1 h3⟩
  | [], _ :: _, h => h.elim
  | _ :: _, [], h => h.elim

theorem retSc_spec : ∀ {ss : List S} {ys : List D}, retSc ss ys → ∃ vs : List Value, ss = vs.map (fun v => .d (.sc v)) ∧ ys = vs.map .sc
  | [], [], _ => ⟨[], rfl, rfl⟩
  | s :: ss, y :: ys, h => by
    unfold retSc at h
    split at h
    · rename_i h1 _; cases h1
    · rename_i v _ _ _ h1 h2; cases h1; cases h2
      obtain ⟨e, h3⟩ := h
      obtain ⟨vs, e1, e2⟩ := retSc_spec h3
      exact ⟨v :: vs, by simp [e1], by simp [e2, e]⟩
    · exact h.elim
  | [], _ :: _, h => by simp [retSc] at h
  | s :: ss, [], h => by cases s <;> first | exact h.elim | (rename_i x; cases x <;> exact h.elim)
end

section
variable {X : Env} {w0 : World} {M0 : Mem} {ac : Act} {w : World} {M : Mem} {γ : Nat → Value} {σ : St}
/-- An own array that is handed back. -/
theorem ownRes (hs : SimW X w0 M0 n σ.ab ac w M γ) (hX : ∀ k A g, σ.ab.c k = some A → k ≠ 100000 → (γ k).ownBlock = some g → ¬ X.x g) {s : S} {r : R1} {v : Value} (hr : retOne σ s r) (hnd : ∀ y, r ≠ .d y) (hv : RepS M σ.ab γ s v) : RepR1 w0 w M r v := by
  cases r with
  | d y => exact absurd rfl (hnd y)
  | own A =>
    obtain ⟨e, sz, xs⟩ := A
    unfold retOne at hr
    simp only at hr
    split at hr
    case h_2 => exact hr.elim
    rename_i k m
    split at hr
    case h_2 => exact hr.elim
    rename_i e' sz' ys hl hsh hk5
    have hk : k ≠ 100000 := (beq_not k 100000).1 hk5
    obtain ⟨rfl, rfl, rfl, rfl⟩ := hr
    obtain ⟨_, hv⟩ := hv.2 _ (live hl)
    obtain ⟨_, ⟨⟨cs, hown, hcs, hMn⟩, hpos, hnew⟩⟩ := hs.ow k _ (live hl)
    have hvk : cutV (γ k) ys.length = γ k := by
      rcases own_form hown with ⟨e, h0⟩ | ⟨g, cap, e, _, _⟩
      · rw [e]; simp only at h0; simp [cutV, h0]
      · rw [e]; rfl
    rw [hvk] at hv
    subst hv
    refine ⟨hpos, cs, ⟨hown.1, ?_⟩, hcs, fun g hg off sp => ?_⟩
    · rcases hown.2 with hl2 | ⟨g, cap, cur, hv, r1, r2⟩
      · exact .inl hl2
      · refine .inr ⟨g, cap, cur, hv, ?_, r2⟩
        have hg : (γ k).ownBlock = some g := by rw [hv]; rfl
        rcases hnew g hg with h1 | h1
        · exact h1
        · exact absurd h1 (hX k _ g (live hl) hk hg)
    · cases hm : M ⟨g, off, sp⟩ with
      | none => rfl
      | some u =>
        have := (hMn g hg off sp u hm).1
        rw [show σ.ab.sh k = false from hsh] at this
        cases this
  | ptr A =>
    obtain ⟨e, sz, xs⟩ := A
    unfold retOne at hr
    simp only at hr
    split at hr
    case h_2 => exact hr.elim
    rename_i k
    split at hr
    case h_2 => exact hr.elim
    rename_i e' sz' ys hl hsh hk5
    have hk : k ≠ 100000 := (beq_not k 100000).1 hk5
    obtain ⟨rfl, rfl, hlen, rfl⟩ := hr
    obtain ⟨_, g, hg, hv⟩ := hv.2 _ (live hl)
    obtain ⟨_, ⟨⟨cs, hown, hcs, hMn⟩, hpos, hnew⟩⟩ := hs.ow k _ (live hl)
    refine ⟨hpos, hlen, γ k, g, hg, by rw [hv]; simp, cs, ⟨hown.1, ?_⟩, hcs, fun off sp => ?_⟩
    · rcases hown.2 with hl2 | ⟨g', cap, cur, hv', r1, r2⟩
      · exact .inl hl2
      · refine .inr ⟨g', cap, cur, hv', ?_, r2⟩
        have hg' : (γ k).ownBlock = some g' := by rw [hv']; rfl
        rcases hnew g' hg' with h1 | h1
        · exact h1
        · exact absurd h1 (hX k _ g' (live hl) hk hg')
    · cases hm : M ⟨g, off, sp⟩ with
      | none => rfl
      | some u =>
        have := (hMn g hg off sp u hm).1
        rw [show σ.ab.sh k = false from hsh] at this
        cases this
end

theorem contract_ofR (R : List Nat) {fn : Func} {c : Code} {f : FuncId} {as : List A1} {r : Res} (hm : P.follows .mixedOrders = true) (hT : TOK P T) (hf : P.funcs[f]? = some fn) (hb : fn.body = some c) (hn : (fn.name == "runtime.NumGoroutine") = false)
    (hcode : codeBR fn.ntmps R c = true) (hlen : as.length ≤ fn.ntmps) (h : dCR P T fn.ntmps R c (finQ T fn.results.toList r) ⟨initS as 0, [], []⟩) : Contract P f as r := by
  refine ⟨enters_of hf (by rw [hb]; rfl) hn, fun w M vs hmw hsz hrep => ?_⟩
  refine calls_of_wp hf hb ?_
  have hinit : ∀ (l : List A1) (i t : Nat), lkS t (initS l i) = if i ≤ t then (match l[t - i]? with | some (.d x) => .d x | some (.fn f) => .fn f | none => .junk) else .junk := by
    intro l
    induction l with
    | nil => intro i t; simp [initS, lkS]
    | cons a l ih =>
      intro i t
      have key : ∀ s, lkS t ((i, s) :: initS l (i + 1)) = if i ≤ t then (if t = i then s else (match l[t - (i + 1)]? with | some (.d x) => .d x | some (.fn f) => .fn f | none => .junk)) else .junk := fun s => by
        rw [lkS_cons, ih]
        by_cases h1 : t = i
        · simp [h1]
        · rw [if_neg h1]
          by_cases h2 : i ≤ t
          · rw [if_pos h2, if_pos (by omega), if_neg h1]
          · rw [if_neg h2, if_neg (by omega)]
      have step : ∀ s, (match (a :: l)[t - i]? with | some (.d x) => S.d x | some (.fn f) => .fn f | none => .junk) = s → lkS t (initS (a :: l) i) = if i ≤ t then s else .junk := fun s hs => by
        subst hs
        cases a with
        | d x =>
          rw [show initS (.d x :: l) i = (i, .d x) :: initS l (i + 1) from rfl, key]
          by_cases h2 : i ≤ t
          · rw [if_pos h2, if_pos h2]
            by_cases h1 : t = i
            · subst h1; simp
            · rw [if_neg h1]
              have e : t - i = (t - (i + 1)) + 1 := by omega
              rw [e, List.getElem?_cons_succ]
          · rw [if_neg h2, if_neg h2]
        | fn g =>
          rw [show initS (.fn g :: l) i = (i, .fn g) :: initS l (i + 1) from rfl, key]
          by_cases h2 : i ≤ t
          · rw [if_pos h2, if_pos h2]
            by_cases h1 : t = i
            · subst h1; simp
            · rw [if_neg h1]
              have e : t - i = (t - (i + 1)) + 1 := by omega
              rw [e, List.getElem?_cons_succ]
          · rw [if_neg h2, if_neg h2]
      exact step _ rfl
  have hs0 : Sim ⟨fun _ => False, fun _ => none⟩ w M fn.ntmps (St.ab ⟨initS as 0, [], []⟩) { tmps := vs ++ Array.replicate (fn.ntmps - vs.size) undef, defers := [] } w := by
    refine ⟨M, fun _ => undef, ⟨rfl, by simp; omega, rfl, rfl, rfl, Nat.le_refl _, fun _ _ _ => rfl, Mem.le_refl M, hmw, fun _ _ h => .inl h, fun t => ?_, fun k A hA => ?_, fun k k' A A' g hA => ?_, fun k v hk => by cases hk⟩⟩
    · change RepS _ _ _ (lkS t (initS as 0)) _
      rw [hinit]
      simp only [Nat.zero_le, if_true, Nat.sub_zero]
      cases ha : as[t]? with
      | none => trivial
      | some a =>
        have ht := (List.getElem?_eq_some_iff.1 ha).1
        have hr := hrep t a ha
        have e : (vs ++ Array.replicate (fn.ntmps - vs.size) undef).getD t undef = vs.getD t undef := by
          simp [Array.getElem?_append_left (show t < vs.size by omega)]
        cases a with
        | d x => simp only; rw [e]; exact hr
        | fn g => simp only; rw [e]; exact hr
    · simp [St.ab, lkC] at hA
    · simp [St.ab, lkC] at hA
  refine wp_mono (good_of_dCR hm hT fn.ntmps R c hcode h _ w M _ w hs0) ?_
  rintro e ac' w' ⟨σ', ⟨M', γ', hs'⟩, hq⟩
  have fin : resL T σ' fn.results.toList (fun ss => retK σ' ss r) → ac'.defers = [] ∧ ∃ v, (results fn ac'.tmps).run P w' = .ok v w' ∧ After w M r (.returned v) w' := by
    intro hq
    refine ⟨hs'.dfr, ?_⟩
    obtain ⟨ss, vl, hK, hrun, hl, hreps⟩ := resL_spec hT hs' hq
    have hres : (results fn ac'.tmps).run P w' = .ok (if h : vl.toArray.size = 1 then vl.toArray[0] else .tuple vl.toArray) w' := by
      have e : (fn.results.mapM (resRun ac')).run P w' = .ok vl.toArray w' := by
        rw [Array.mapM_eq_mapM_toList, Sem.run_map, hrun]; rfl
      have e2 : results fn ac'.tmps = (fn.results.mapM (resRun ac') >>= fun vs => pure (if h : vs.size = 1 then vs[0] else .tuple vs)) := by
        unfold results
        congr 1
      rw [e2, Sem.run_bind, e]
      rfl
    have hbelow : Below w.heap.size w w' := ⟨hs'.os, hs'.tape, hs'.output, hs'.hsz, fun k hk => hs'.frame k hk (fun h => h)⟩
    have after : ∀ v M'', Mem.le M' M'' → (∀ a u, M'' a = some u → w'.cell? a = some u) → (∀ a u, M'' a = some u → M a = some u ∨ w.heap.size ≤ a.block ∨ False) → RepRes w w' M'' r v → After w M r (.returned v) w' := fun v M'' hle hmw' hmn' hr =>
      ⟨v, M'', rfl, hbelow, Mem.le_trans hs'.m0 hle, hmw', fun a u hu => by rcases hmn' a u hu with h | h | h
                                                                            · exact .inl h
                                                                            · exact .inr h
                                                                            · exact h.elim, hr⟩
    have hX : ∀ k A g, σ'.ab.c k = some A → k ≠ 100000 → (γ' k).ownBlock = some g → ¬ (⟨fun _ => False, fun _ => none⟩ : Env).x g := fun _ _ _ _ _ _ h => h
    cases r with
    | one r1 =>
      match ss, hK, hreps, hl with
      | [s], hK, hreps, hl =>
        match vl, hl with
        | [v], _ =>
          refine ⟨v, hres, ?_⟩
          have hv := hreps 0 s rfl
          cases r1 with
          | d y =>
            obtain ⟨x, ks, h1, e⟩ := toDS_spec (show toDS σ' s fun x _ => x = y from hK)
            subst e
            obtain ⟨M'', h2, hle, hrep2⟩ := hs'.toD h1 hv
            exact after v M'' hle h2.mw h2.mn hrep2
          | own A => exact after v M' (Mem.le_refl _) hs'.mw hs'.mn (ownRes (r := .own A) hs' hX (show retOne σ' s (.own A) from hK) (fun _ h => by cases h) hv)
          | ptr A => exact after v M' (Mem.le_refl _) hs'.mw hs'.mn (ownRes (r := .ptr A) hs' hX (show retOne σ' s (.ptr A) from hK) (fun _ h => by cases h) hv)
      | [], hK, _, _ => exact hK.elim
      | _ :: _ :: _, hK, _, _ => exact hK.elim
    | tup r1 rest =>
      match ss, hK, hreps, hl with
      | [], hK, _, _ => exact hK.elim
      | [_], hK, _, _ => exact hK.elim
      | s :: s2 :: ss, hK, hreps, hl =>
        have hne : ¬ vl.toArray.size = 1 := by simp [hl]
        rw [dif_neg hne] at hres
        cases r1 with
        | d y =>
          obtain ⟨x, ks, h1, e, h2⟩ := toDS_spec (show toDS σ' s fun x _ => x = y ∧ retRest σ' (s2 :: ss) rest from hK)
          subst e
          obtain ⟨ks', h3⟩ := retRest_spec h2
          obtain ⟨M'', h4, hle, hlen2, hrep2⟩ := SimW.toDs (.cons h1 h3) rfl hs' (vs := fun j => vl.getD j undef) hreps
          refine ⟨_, hres, after _ M'' hle h4.mw h4.mn ⟨vl.toArray, rfl, ?_, ?_, fun j z hz => ?_⟩⟩
          · simp only [List.length_cons] at hlen2
            simp [hl]
            omega
          · have := hrep2 0 x rfl
            simpa [RepR1] using this
          · have := hrep2 (j + 1) z (by simpa using hz)
            simpa using this
        | own A =>
          obtain ⟨h1, h2⟩ := (show retOne σ' s (.own A) ∧ retSc (s2 :: ss) rest from hK)
          obtain ⟨us, e1, e2⟩ := retSc_spec h2
          subst e2
          have hlen3 : us.length = ss.length + 1 := by have := congrArg List.length e1; simpa using this.symm
          refine ⟨_, hres, after _ M' (Mem.le_refl _) hs'.mw hs'.mn ⟨vl.toArray, rfl, by simp [hl, hlen3], ?_, fun j z hz => ?_⟩⟩
          · have := ownRes hs' hX h1 (fun _ h => by cases h) (hreps 0 s rfl)
            simpa using this
          · rw [List.getElem?_map] at hz
            cases hu : us[j]? with
            | none => simp [hu] at hz
            | some u =>
              simp [hu] at hz; subst hz
              have h5 : (s :: s2 :: ss)[j + 1]? = some (.d (.sc u)) := by rw [List.getElem?_cons_succ, e1]; simp [hu]
              have := hreps (j + 1) _ h5
              simpa [RepS] using this
        | ptr A => exact hK.elim
  cases e with
  | normal => exact fin hq
  | ret => exact fin hq
  | _ => exact hq.elim
theorem contract_of {fn : Func} {c : Code} {f : FuncId} {as : List A1} {r : Res} (hm : P.follows .mixedOrders = true) (hT : TOK P T) (hf : P.funcs[f]? = some fn) (hb : fn.body = some c) (hn : (fn.name == "runtime.NumGoroutine") = false)
    (hcode : codeB fn.ntmps c = true) (hlen : as.length ≤ fn.ntmps) (h : dC P T fn.ntmps c (finQ T fn.results.toList r) ⟨initS as 0, [], []⟩) : Contract P f as r :=
  contract_ofR [] hm hT hf hb hn hcode hlen h
end
end Go.DL
