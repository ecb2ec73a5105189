/- Part of an evaluator of Go code on plain data, proved sound for the model: lemmas alone, for every program; each states its own conditions. -/
import Derived.Test.YtjhjedfnjimflaaEngG
namespace Go.DL
open Go.RowKit
section
variable {X : Env} {w0 : World} {M0 : Mem} {n : Nat} {τ : Ab} {ac : Act} {w : World} {M : Mem} {γ : Nat → Value} {P : Program} {T : Tys}

theorem wp_value {o : Oper} {K : Act → World → Prop} {Q : Exit → Act → World → Prop} {v : Value} {w' : World} (h : (execOp ac.eval o).run P w = .ok (.value v) w') (hK : K (ac.put o.dst v) w') : o.wp P ac w K Q := by
  unfold Oper.wp
  rw [h]
  exact hK
theorem wp_skip' {o : Oper} {K : Act → World → Prop} {Q : Exit → Act → World → Prop} {w' : World} (h : (execOp ac.eval o).run P w = .ok .skip w') (hK : K (ac.put o.dst undef) w') : o.wp P ac w K Q := by
  unfold Oper.wp
  rw [h]
  exact hK

theorem eff_plain (τ : Ab) (dst : Option Nat) (s : S) : τ.eff dst { s } = τ.put dst s := rfl
theorem eff_sh (τ : Ab) (dst : Option Nat) (s : S) (ks : List Nat) : τ.eff dst { s, sh := ks } = (τ.shares ks).put dst s := rfl
theorem eff_al (τ : Ab) (dst : Option Nat) (s : S) (ks : List Nat) (d : Nat) (A : Arr) : τ.eff dst { s, sh := ks, al := some (d, A) } = ((τ.shares ks).al d A).put dst s := rfl

theorem Sim.of (h : SimW X w0 M0 n τ ac w M γ) : Sim X w0 M0 n τ ac w := ⟨M, γ, h⟩

/-- a new block of one element -/
theorem al_one (h : SimW X w0 M0 n τ ac w M γ) {t : TypeId} {y : D} {v : Value} {d : Nat} (hu : τ.us d = false) (hdn : d < n) (hr : Rep M y v) (hw : 0 < y.width) {dst : Option Nat} (hd : ∀ d, dst = some d → d < n) :
    SimW X w0 M0 n ((τ.al d ⟨t, y.width, [y]⟩).put dst (.ae d 0)) (ac.put dst (.pointer (some ⟨w.heap.size, 0, none⟩))) (w.alloc (.cells v.cells t)) M (upd γ d (.slice (some ⟨w.heap.size, 0, none⟩) 1 1)) := by
  have h1 := h.alNew (A := ⟨t, y.width, [y]⟩) v.cells.toList hu hdn (cellsOK_one hr) hw (by simp [maxLen])
  refine SimW.put (by simpa using h1) hd ⟨by simp [Ab.al], fun A hA => ?_⟩
  have e : A = ⟨t, y.width, [y]⟩ := by simpa [Ab.al] using hA.symm
  subst e
  exact ⟨by simp, w.heap.size, by simp [upd, Value.ownBlock], by simp⟩

theorem ownBlock_live (h : SimW X w0 M0 n τ ac w M γ) {k : Nat} {A : Arr} (hA : τ.c k = some A) : (γ k = .slice none 0 0 ∧ A.xs = []) ∨ ∃ g cap, γ k = .slice (some ⟨g, 0, none⟩) A.xs.length cap ∧ A.xs.length ≤ cap ∧ cap ≤ maxLen := by
  obtain ⟨_, ⟨⟨cs, hown, _, _⟩, _, _⟩⟩ := h.ow k A hA
  rcases own_form hown with ⟨h1, h2⟩ | ⟨g, cap, h1, h2, h3⟩
  · exact .inl ⟨h1, List.eq_nil_of_length_eq_zero h2⟩
  · exact .inr ⟨g, cap, h1, h2, h3⟩

theorem run_load_cell {t : TypeId} {ty : Ty} (hT : TyOK P t ty) {y : D} (hf : LoadFit ty y) (hy : y.isCell = true) {ad : Addr} {v : Value} (hv : w.cell? ad = some v) :
    (Instr.loadAt t (.pointer (some ad))).run P w = .ok v w := by
  have hna : ty.isSt = false := by cases ty <;> first | rfl | (cases y <;> first | exact hf.elim | cases hy)
  simp only [Instr.loadAt, Instr.sureAddr, Sem.run_bind, Sem.run_pure, Result.andThen_ok, loadVar, run_isAgg hT, hna, Bool.false_eq_true, if_false, run_load, hv]

theorem run_load_agg {t : TypeId} {ty : Ty} (hT : TyOK P t ty) {fs : List D} (hf : LoadFit ty (.agg fs)) {ad : Addr} {cs : List Value} (hl : cs.length = fs.length) (hv : ∀ j v, cs[j]? = some v → w.cell? (ad.add j) = some v) :
    (Instr.loadAt t (.pointer (some ad))).run P w = .ok (.agg cs.toArray) w := by
  cases ty with
  | st Fs =>
    have hl2 : Fs.length = fs.length := hf
    have hr := run_loadCells_list (P := P) w ad cs hv
    simp only [Instr.loadAt, Instr.sureAddr, Sem.run_bind, Sem.run_pure, Result.andThen_ok, loadVar, run_isAgg hT, Ty.isSt, if_true, run_sizeOf hT, Ty.width, hl2, ← hl, hr]
  | _ => exact hf.elim

theorem rep_agg_list {M : Mem} {fs : List D} {cs : List Value} (hl : cs.length = fs.length) (h : ∀ (i : Nat) (f : D), fs[i]? = some f → f.isCell = true ∧ ∃ v, cs[i]? = some v ∧ Rep M f v) : Rep M (.agg fs) (.agg cs.toArray) := by
  refine .agg fs cs.toArray (by simpa using hl) (fun f hf => ?_) (fun j f hj => ?_)
  · obtain ⟨j, hj⟩ := List.getElem?_of_mem hf
    exact (h j f hj).1
  · obtain ⟨_, v, h1, h2⟩ := h j f hj
    have : cs.toArray.getD j undef = v := by simp [h1]
    rw [this]
    exact h2

theorem loadAny {t : TypeId} {ty : Ty} (hT : TyOK P t ty) {y : D} (hf : LoadFit ty y) {ad : Addr} (hc : y.isCell = true → ∃ v, w.cell? ad = some v ∧ Rep M y v)
    (ha : ∀ fs, y = .agg fs → ∀ (i : Nat) (f : D), fs[i]? = some f → f.isCell = true ∧ ∃ v, w.cell? (ad.add i) = some v ∧ Rep M f v) :
    ∃ v, (Instr.loadAt t (.pointer (some ad))).run P w = .ok v w ∧ Rep M y v := by
  cases y with
  | agg fs =>
    let cs : List Value := (List.range fs.length).map fun i => (w.cell? (ad.add i)).getD undef
    have hl : cs.length = fs.length := by simp [cs]
    have hget : ∀ i, i < fs.length → cs[i]? = some ((w.cell? (ad.add i)).getD undef) := fun i hi => by simp [cs, hi]
    refine ⟨.agg cs.toArray, run_load_agg hT hf hl (fun j v hv => ?_), rep_agg_list hl (fun i f hi => ?_)⟩
    · have hj : j < fs.length := by rw [← hl]; exact (List.getElem?_eq_some_iff.1 hv).1
      obtain ⟨_, u, h1, _⟩ := ha fs rfl j _ (List.getElem?_eq_getElem hj)
      rw [hget j hj, h1] at hv
      rw [h1]
      simpa using hv
    · obtain ⟨h0, u, h1, h2⟩ := ha fs rfl i f hi
      refine ⟨h0, u, ?_, h2⟩
      rw [hget i (List.getElem?_eq_some_iff.1 hi).1, h1]
      rfl
  | sc u =>
    obtain ⟨v, h1, h2⟩ := hc rfl
    exact ⟨v, run_load_cell hT hf rfl h1, h2⟩
  | sl xs =>
    obtain ⟨v, h1, h2⟩ := hc rfl
    exact ⟨v, run_load_cell hT hf rfl h1, h2⟩

theorem SimW.toAs {τ0 : Ab} {ss : List S} {xs : List A1} {ks : List Nat} (hd : ToAs τ0 ss xs ks) : ∀ {τ : Ab} {M : Mem} {vs : Nat → Value}, τ.c = τ0.c → SimW X w0 M0 n τ ac w M γ →
    (∀ (j : Nat) (s : S), ss[j]? = some s → RepS M τ γ s (vs j)) →
    ∃ M', SimW X w0 M0 n (τ.shares ks) ac w M' γ ∧ Mem.le M M' ∧ xs.length = ss.length ∧ ∀ (j : Nat) (x : A1), xs[j]? = some x → RepA M' x (vs j) := by
  induction hd with
  | nil => exact fun hc h hv => ⟨_, h, Mem.le_refl _, rfl, fun j x hx => by simp at hx⟩
  | @cons s x k ss xs ks h0 t ih =>
    intro τ M vs hc h hv
    have h00 := h0.of_c hc
    have : ∃ M1, SimW X w0 M0 n (τ.shares k) ac w M1 γ ∧ Mem.le M M1 ∧ RepA M1 x (vs 0) := by
      cases h00 with
      | d hd => exact h.toD hd (hv 0 _ rfl)
      | fn f => exact ⟨M, h, Mem.le_refl M, hv 0 _ rfl⟩
    obtain ⟨M1, h1, l1, r1⟩ := this
    obtain ⟨e1, e2, e3⟩ := shares_c τ k
    obtain ⟨M2, h2, l2, hl, r2⟩ := ih (vs := fun j => vs (j + 1)) (by rw [e1, hc]) h1 (fun j s' hs => (hv (j + 1) s' (by simpa using hs)).goes l1 (Goes.shares τ γ k))
    refine ⟨M2, by rw [shares_append]; exact h2, Mem.le_trans l1 l2, by simp [hl], fun j y hy => ?_⟩
    cases j with
    | zero => simp at hy; subst hy; exact r1.mono l2
    | succ j => exact r2 j y (by simpa using hy)

theorem run_call {o : Oper} {fx : Operand} {args : Array Operand} {tys : Array TypeId} {f : FuncId} (ho : o.op = .call { callee := .value fx, args, argTypes := tys }) (hv : ac.eval fx = .func (.func f) #[] #[]) (he : Enters P f) :
    (execOp ac.eval o).run P w = .ok (.enter f (args.map ac.eval)) w := by
  simp only [execOp, ho, resolve, hv, Deferred.ofValue, Sem.run_bind, Sem.run_pure, Result.andThen_ok, invoke]
  simpa using he (args.map ac.eval) w

theorem wp_call {o : Oper} {f : FuncId} {vs : Array Value} {K : Act → World → Prop} {Q : Exit → Act → World → Prop} (h : (execOp ac.eval o).run P w = .ok (.enter f vs) w)
    {r : Res} (hc : Calls P f vs w (After w M r)) (hK : ∀ v w', After w M r (.returned v) w' → K (ac.put o.dst v) w') : o.wp P ac w K Q := by
  unfold Oper.wp
  rw [h]
  refine hc.mono fun e w' ha => ?_
  obtain ⟨v, M', he, rest⟩ := ha
  subst he
  exact hK v w' ⟨v, M', rfl, rest⟩

theorem res_put {w' : World} {M' : Mem} {r : Res} {dst : Option Nat} {s : S} {al : Option (Nat × Arr)} {v : Value} (h : SimW X w0 M0 n τ ac w M γ) (hd : ∀ d, dst = some d → d < n) (hr : ResE τ dst r s al)
    (hb : Below w.heap.size w w') (hle : Mem.le M M') (hmw : ∀ a u, M' a = some u → w'.cell? a = some u) (hmn : ∀ a u, M' a = some u → M a = some u ∨ w.heap.size ≤ a.block) (hv : RepRes w w' M' r v) :
    Sim X w0 M0 n ((τ.alO al).put dst s) (ac.put dst v) w' := by
  cases hr with
  | d x => exact ⟨M', γ, (h.call hb hle hmw hmn).put hd hv⟩
  | own A d h1 hu =>
    obtain ⟨hpos, cs, hown, hcs, hnm⟩ := hv
    refine ⟨M', _, (h.al hu (hd d h1) hb hle hmw hmn cs hown hcs hpos hnm).put hd ⟨by simp [Ab.al], fun A' hA' => ?_⟩⟩
    have e : A' = A := by simpa [Ab.al] using hA'.symm
    subst e
    refine ⟨Nat.le_refl _, ?_⟩
    rcases own_form hown with ⟨e, h0⟩ | ⟨g, cap, e, _, _⟩
    · rw [e, h0]; simp [upd, cutV]
    · rw [e]; simp [upd, cutV]
  | ptr A d h1 hu =>
    obtain ⟨hpos, hlen, u, g, hug, hve, cs, hown, hcs, hnm⟩ := hv
    refine ⟨M', _, (h.al hu (hd d h1) hb hle hmw hmn cs hown hcs hpos (fun g' hg' off sp => by rw [hug] at hg'; cases hg'; exact hnm off sp)).put hd ⟨by simp [Ab.al], fun A' hA' => ?_⟩⟩
    have e : A' = A := by simpa [Ab.al] using hA'.symm
    subst e
    exact ⟨hlen, g, by simpa [upd] using hug, by rw [hve]; simp⟩
  | tupd x rest =>
    obtain ⟨vs, e, hsz, h0, hrest⟩ := hv
    refine ⟨M', γ, (h.call hb hle hmw hmn).put hd ⟨vs, e, by simp [hsz], fun j s hs => ?_⟩⟩
    cases j with
    | zero => simp at hs; subst hs; exact h0
    | succ j =>
      rw [List.getElem?_cons_succ, List.getElem?_map] at hs
      cases hx : rest[j]? with
      | none => simp [hx] at hs
      | some y => simp [hx] at hs; subst hs; exact hrest j y hx
  | tupo A rest d h1 hu =>
    obtain ⟨vs, e, hsz, ⟨hpos, cs, hown, hcs, hnm⟩, hrest⟩ := hv
    refine ⟨M', _, (h.al hu (hd d h1) hb hle hmw hmn cs hown hcs hpos hnm).put hd ⟨vs, e, by simp [hsz], fun j s hs => ?_⟩⟩
    cases j with
    | zero =>
      simp at hs; subst hs
      refine ⟨by simp [Ab.al], fun A' hA' => ?_⟩
      have e : A' = A := by simpa [Ab.al] using hA'.symm
      subst e
      refine ⟨Nat.le_refl _, ?_⟩
      rcases own_form hown with ⟨e, h0⟩ | ⟨g, cap, e, _, _⟩
      · rw [e, h0]; simp [upd, cutV]
      · rw [e]; simp [upd, cutV]
    | succ j =>
      rw [List.getElem?_cons_succ, List.getElem?_map] at hs
      cases hx : rest[j]? with
      | none => simp [hx] at hs
      | some y => simp [hx] at hs; subst hs; exact hrest j y hx

theorem flat_put {w' : World} {M' : Mem} {r : Res} {dst : Option Nat} {s : S} {v : Value} (h : SimW X w0 M0 n τ ac w M γ) (hd : ∀ d, dst = some d → d < n) (hr : FlatRes r s)
    (hb : Below w.heap.size w w') (hv : RepRes w w' M' r v) : Sim X w0 M0 n (τ.put dst s) (ac.put dst v) w' := by
  have hw : SimW X w0 M0 n τ ac w' M γ := h.call hb (Mem.le_refl M) (fun a u hu => by
    have h1 := h.mw a u hu
    rw [hb.cell (block_lt_of_cell h1)]; exact h1) (fun _ _ hu => .inl hu)
  have sc : ∀ {u v : Value}, Rep M' (.sc u) v → Rep M (.sc u) v := fun {u v} hr => by cases hr with | sc _ h => exact .sc _ h
  cases hr with
  | d u => exact ⟨M, γ, hw.put hd (sc hv)⟩
  | tup u rest =>
    obtain ⟨vs, e, hsz, h0, hrest⟩ := hv
    refine ⟨M, γ, hw.put hd ⟨vs, e, by simpa using hsz, fun j s hs => ?_⟩⟩
    cases j with
    | zero => simp at hs; subst hs; exact sc h0
    | succ j =>
      rw [List.getElem?_cons_succ, List.getElem?_map] at hs
      cases hx : rest[j]? with
      | none => simp [hx] at hs
      | some y => simp [hx] at hs; subst hs; exact sc (hrest j _ (by simp [hx]))

theorem ResE.us {τ τ' : Ab} (hu : τ'.us = τ.us) {dst : Option Nat} {r : Res} {s : S} {al : Option (Nat × Arr)} (h : ResE τ dst r s al) : ResE τ' dst r s al := by
  cases h with
  | d x => exact .d x
  | own A d h1 h2 => exact .own A d h1 (by rw [hu]; exact h2)
  | ptr A d h1 h2 => exact .ptr A d h1 (by rw [hu]; exact h2)
  | tupd x rest => exact .tupd x rest
  | tupo A rest d h1 h2 => exact .tupo A rest d h1 (by rw [hu]; exact h2)

theorem zip_fst {α β : Type} (parts : List (Nat × α)) (ρ : α → β) (ds : List D) (xs : List D) :
    ((parts.map fun p => (p.1, ρ p.2)).zip ds).foldl (fun xs q => xs.set q.1.1 q.2) xs = ((parts.map (·.1)).zip ds).foldl (fun xs q => xs.set q.1 q.2) xs := by
  induction parts generalizing ds xs with
  | nil => rfl
  | cons p ps ih =>
    cases ds with
    | nil => rfl
    | cons d ds => exact ih ds _

theorem foldl_set_len (l : List (Nat × D)) (xs : List D) : (l.foldl (fun xs q => xs.set q.1 q.2) xs).length = xs.length := by
  induction l generalizing xs with
  | nil => rfl
  | cons p l ih => simp [ih]

theorem foldl_set_cells (l : List (Nat × D)) (xs : List D) (hx : ∀ x ∈ xs, x.isCell = true) (hl : ∀ q ∈ l, q.2.isCell = true) : ∀ x ∈ l.foldl (fun xs q => xs.set q.1 q.2) xs, x.isCell = true := by
  induction l generalizing xs with
  | nil => exact hx
  | cons p l ih =>
    refine ih _ (fun x hm => ?_) (fun q hq => hl q (List.mem_cons_of_mem _ hq))
    rcases List.mem_or_eq_of_mem_set hm with h | h
    · exact hx x h
    · rw [h]; exact hl p List.mem_cons_self

theorem places_ok (l : List Field) (h : ∀ f ∈ l, ∃ i, P.info? f.type = some i ∧ i.size = 1) : l.mapM (fun f => (P.info? f.type).map fun i => (f.offset, i.size)) = some (l.map fun f => (f.offset, 1)) := by
  induction l with
  | nil => rfl
  | cons f l ih =>
    obtain ⟨i, hi, h1⟩ := h f List.mem_cons_self
    rw [List.mapM_cons, ih fun g hg => h g (List.mem_cons_of_mem _ hg)]
    simp [hi, h1]

theorem TEff.sound (hT : TOK P T) {o : Oper} {e : Ef} (hd : ∀ d, o.dst = some d → d < n) (h : TEff P T o τ e) (hs : SimW X w0 M0 n τ ac w M γ) (Q : Exit → Act → World → Prop) :
    o.wp P ac w (fun ac' w' => Sim X w0 M0 n (τ.eff o.dst e) ac' w') Q := by
  cases h with
  | pure s h =>
    obtain ⟨v, h1, h2⟩ := h.sound hT hs
    exact wp_value h1 (.of (hs.put hd h2))
  | alloc t ty d ho hdst hu hm hw =>
    have hr := run_zero (hT _ hm) (P := P) w
    have h1 : (execOp ac.eval o).run P w = .ok (.value (.pointer (some ⟨w.heap.size, 0, none⟩))) (w.alloc (.cells ty.zeroV.cells t)) := by
      simp only at hr
      simp [execOp, ho, Instr.alloc, hr, newVar, newRow]
    have := al_one hs (t := t) hu (hd d hdst) (ty.zero_rep M) (by rw [ty.zero_width]; exact hw) hd
    rw [ty.zero_width] at this
    exact wp_value h1 (.of this)
  | box t x y ks d ho hdst hu hx hw =>
    obtain ⟨M', h1, hle, hr⟩ := hs.toD hx (hs.val x)
    have hrun : (execOp ac.eval o).run P w = .ok (.value (.pointer (some ⟨w.heap.size, 0, none⟩))) (w.alloc (.cells (ac.eval x).cells t)) := by
      simp [execOp, ho, Instr.box, newVar, newRow]
    exact wp_value hrun (.of (al_one h1 (by rw [(shares_c τ ks).2.1]; exact hu) (hd d hdst) hr hw hd))
  | build t parts Fs ds ks ho hm hx hc hi =>
    obtain ⟨M', h1, hle, hl, hr⟩ := SimW.toDs hx rfl hs (vs := fun j => ac.eval ((parts.toList[j]?).map (·.2) |>.getD (.const undef))) (fun j s hj => by
      rw [List.getElem?_map] at hj
      cases hp : parts.toList[j]? with
      | none => simp [hp] at hj
      | some p => simp [hp] at hj; subst hj; simpa using hs.val p.2)
    have hz := cellsOK_one ((Ty.st Fs).zero_rep M')
    obtain ⟨fds, hun, hsz, hfs, _⟩ := (hT _ hm).und
    have hcells : CellsOK M' 1 (Fs.map F.zeroD) (Fs.map F.zeroV) := by
      refine ⟨by simp, fun j x hj => ?_⟩
      rw [List.getElem?_map] at hj
      cases hf : Fs[j]? with
      | none => simp [hf] at hj
      | some f =>
        simp [hf] at hj; subst hj
        refine ⟨width_one (F.zero_rep M' f).2, fun _ => ⟨f.zeroV, by simp [hf], (F.zero_rep M' f).1⟩, fun fs hfs => ?_⟩
        have := (F.zero_rep M' f).2
        rw [hfs] at this; cases this
    obtain ⟨cs', hfill, hcs'⟩ := fill_ok (M := M') (sz := 1) (place := fun i => (fds.map fun f => (f.offset, 1))[i]?) (parts.toList.map fun p => (p.1, ac.eval p.2)) ds (Fs.map F.zeroD) (Fs.map F.zeroV).toArray (by simpa using hcells)
      (by rw [hl]; simp) (fun j p d hp hdj => by
        rw [List.getElem?_map] at hp
        cases hq : parts.toList[j]? with
        | none => simp [hq] at hp
        | some q =>
          simp [hq] at hp; subst hp
          have hil := hi q (List.mem_of_getElem? hq)
          obtain ⟨fd, hfd, hoff, _⟩ := hfs q.1 _ (List.getElem?_eq_getElem hil)
          refine ⟨by simp [hfd, hoff], by simpa using hil, width_one (hc d (List.mem_of_getElem? hdj)), ?_⟩
          have := hr j d hdj
          simpa [hq] using this)
    have hall : ∀ f ∈ fds.toList, ∃ i, P.info? f.type = some i ∧ i.size = 1 := fun f hf => by
      obtain ⟨j, hj⟩ := List.getElem?_of_mem hf
      have hjl : j < Fs.length := by have := (List.getElem?_eq_some_iff.1 hj).1; simpa [hsz] using this
      obtain ⟨fd, hfd, _, _, h3, _⟩ := hfs j _ (List.getElem?_eq_getElem hjl)
      have e : fd = f := by
        have h4 : fds[j]? = some f := by simpa using hj
        rw [hfd] at h4
        exact Option.some.inj h4
      subst e
      exact h3
    have hpl : (fds.mapM fun f => Prod.mk f.offset <$> sizeOf f.type).run P w = .ok (fds.map fun f => (f.offset, 1)) w := by
      have h2 := run_places (P := P) w fds.toList _ (places_ok fds.toList hall)
      rw [Array.mapM_eq_mapM_toList, Sem.run_map, h2]
      simp only [Result.andThen_ok]
      congr 1
      apply Array.ext'
      simp
    have hzr := run_zero (hT _ hm) (P := P) w
    simp only at hzr
    have hrun : (execOp ac.eval o).run P w = .ok (.value (.agg cs')) w := by
      simp only [execOp, ho, Instr.build, bind_pure_comp, Sem.run_bind, Sem.run_map, hzr, Result.andThen_ok, run_underlying hun, hpl]
      have e : (parts.map fun x => match x with | (i, x) => (i, ac.eval x)).toList = parts.toList.map fun p => (p.1, ac.eval p.2) := by simp
      rw [e]
      have e2 : (Ty.st Fs).zeroV.cells = (Fs.map F.zeroV).toArray := rfl
      rw [e2]
      rw [hfill]
      rfl
    refine wp_value hrun (.of (h1.put hd ?_))
    rw [zip_fst (ρ := ac.eval)] at hcs'
    have hlen := hcs'.1
    rw [Nat.mul_one] at hlen
    have := rep_agg_list (M := M') hlen (fun i f hif => by
      obtain ⟨hw1, hel⟩ := hcs'.2 i f hif
      have hcell : f.isCell = true := foldl_set_cells _ _ (fun x hx => by obtain ⟨g, _, rfl⟩ := List.mem_map.1 hx; exact (F.zero_rep M' g).2) (fun q hq => hc _ (List.of_mem_zip hq).2) f (List.mem_of_getElem? hif)
      obtain ⟨v, a, b⟩ := hel.1 hcell
      exact ⟨hcell, v, by simpa using a, b⟩)
    simpa [RepS] using this
  | buildSlice t len parts e ety ds ks d ho hdst hu hm hE hx hc hi hw hl24 =>
    obtain ⟨M', h1, hle, hl, hr⟩ := SimW.toDs hx rfl hs (vs := fun j => ac.eval ((parts.toList[j]?).map (·.2) |>.getD (.const undef))) (fun j s hj => by
      rw [List.getElem?_map] at hj
      cases hp : parts.toList[j]? with
      | none => simp [hp] at hj
      | some p => simp [hp] at hj; subst hj; simpa using hs.val p.2)
    have hu2 := (hT _ hm).und
    simp only at hu2
    obtain ⟨hzs, _, hze⟩ := (ety.zero_rep M').cells_one
    rw [ety.zero_width] at hzs
    have hz0 : 0 < ety.zeroV.cells.size := by omega
    have hcells := cellsOK_replicate (n := len) (us := ety.zeroV.cells.toList) (by rw [Array.length_toList, hzs, ety.zero_width]) hze
    rw [ety.zero_width] at hcells
    have hmade : (madeCells ety.zeroV.cells (len * ety.width)).toList = (List.replicate len ety.zeroV.cells.toList).flatten := by
      rw [← hzs]; exact toList_madeCells _ _ hz0
    rw [← hmade] at hcells
    obtain ⟨cs', hfill, hcs'⟩ := fill_ok (M := M') (sz := ety.width) (place := fun i => some (i * ety.width, ety.width)) (parts.toList.map fun p => (p.1, ac.eval p.2)) ds (List.replicate len ety.zeroD) _ hcells
      (by rw [hl]; simp) (fun j p d hp hdj => by
        rw [List.getElem?_map] at hp
        cases hq : parts.toList[j]? with
        | none => simp [hq] at hp
        | some q =>
          simp [hq] at hp; subst hp
          refine ⟨rfl, by simpa using hi q (List.mem_of_getElem? hq), hc d (List.mem_of_getElem? hdj), ?_⟩
          have := hr j d hdj
          simpa [hq] using this)
    rw [zip_fst (ρ := ac.eval)] at hcs'
    have hrun : (execOp ac.eval o).run P w = .ok (.value (.slice (some ⟨w.heap.size, 0, none⟩) len len)) (w.alloc (.cells cs' e)) := by
      have hzr := run_zero (hT _ hE) (P := P) w
      have hsr := run_sizeOf (hT _ hE) (P := P) w
      simp only at hzr hsr
      simp only [execOp, ho, Instr.buildSlice, bind_pure_comp, Sem.run_bind, Sem.run_map, Result.andThen_ok, run_underlying hu2, hsr]
      have eparts : (parts.map fun x => match x with | (i, x) => (i, ac.eval x)).toList = parts.toList.map fun p => (p.1, ac.eval p.2) := by simp
      rw [eparts, if_neg (by omega)]
      by_cases h0 : len * ety.width = 0
      · have hm0 : (Array.range (len * ety.width)).map (fun x => (#[] : Array Value)[x % (#[] : Array Value).size]!) = madeCells ety.zeroV.cells (len * ety.width) := by rw [h0]; simp [madeCells, Array.range_zero']
        rw [if_pos h0]
        simp only [Sem.run_bind, Sem.run_pure, Result.andThen_ok]
        rw [hm0, hfill]
        simp [newRow]
      · rw [if_neg h0]
        simp only [Sem.run_bind, hzr, Sem.run_pure, Result.andThen_ok]
        have hm0 : (Array.range (len * ety.width)).map (fun x => ety.zeroV.cells[x % ety.zeroV.cells.size]!) = madeCells ety.zeroV.cells (len * ety.width) := rfl
        rw [hm0, hfill]
        simp [newRow]
    have hlen : (((parts.toList.map (·.1)).zip ds).foldl (fun xs q => xs.set q.1 q.2) (List.replicate len ety.zeroD)).length = len := by rw [foldl_set_len]; simp
    have hnew := h1.alNew (k := d) (A := ⟨e, ety.width, ((parts.toList.map (·.1)).zip ds).foldl (fun xs q => xs.set q.1 q.2) (List.replicate len ety.zeroD)⟩) cs'.toList (by rw [(shares_c τ ks).2.1]; exact hu) (hd d hdst) hcs' hw
      (by simp only [hlen, maxLen]; have := Nat.le_mul_of_pos_right len hw; omega)
    simp only [hlen, Array.toArray_toList] at hnew
    exact wp_value hrun (.of (hnew.put hd ⟨by simp [Ab.al], fun A hA => by
      have e : A = ⟨e, ety.width, ((parts.toList.map (·.1)).zip ds).foldl (fun xs q => xs.set q.1 q.2) (List.replicate len ety.zeroD)⟩ := by simpa [Ab.al] using hA.symm
      subst e
      exact ⟨Nat.le_of_eq hlen.symm, by simp [upd, cutV]⟩⟩))
  | makeSlice t x y m k k' e ety d ho hdst hu hm hE hx hy hm35 hw =>
    have e1 : ac.eval x = .int k (m : Int) := by have := hs.val x; rw [hx] at this; exact rep_sc this
    have e2 : ac.eval y = .int k' (m : Int) := by have := hs.val y; rw [hy] at this; exact rep_sc this
    have hu2 := (hT _ hm).und
    simp only at hu2
    obtain ⟨i, hi, his, hiz, hib⟩ := (hT _ hE).info
    simp only at hi his hiz
    obtain ⟨hzs, _, hze⟩ := (ety.zero_rep M).cells_one
    rw [ety.zero_width] at hzs
    have hbytes : (i.bytes : Int) * (m : Int) ≤ 281474976710656 := by
      have h3 : i.bytes * m ≤ 4096 * 34359738368 := Nat.mul_le_mul hib hm35
      have h4 : ((i.bytes * m : Nat) : Int) ≤ 281474976710656 := by omega
      rwa [Int.natCast_mul] at h4
    have hr := run_make (P := P) w t e i ety.zeroV hu2 hi hiz k k' (m : Int) (m : Int) (by omega) (Int.le_refl _) hbytes (by omega)
    simp only [Int.toNat_natCast, his] at hr
    have hrun : (execOp ac.eval o).run P w = .ok (.value (.slice (some ⟨w.heap.size, 0, none⟩) m m)) (w.alloc (.cells (madeCells ety.zeroV.cells (m * ety.width)) e)) := by
      simp only [execOp, ho, e1, e2, bind_pure_comp, Sem.run_map, hr, Result.andThen_ok]
    have hcells := cellsOK_replicate (M := M) (n := m) (us := ety.zeroV.cells.toList) (by rw [Array.length_toList, hzs, ety.zero_width]) hze
    rw [ety.zero_width] at hcells
    have hmade : (madeCells ety.zeroV.cells (m * ety.width)).toList = (List.replicate m ety.zeroV.cells.toList).flatten := by
      rw [← hzs]; exact toList_madeCells _ _ (by omega)
    rw [← hmade] at hcells
    have hnew := hs.alNew (k := d) (A := ⟨e, ety.width, List.replicate m ety.zeroD⟩) _ hu (hd d hdst) hcells hw (by simp [maxLen]; omega)
    simp only [Array.toArray_toList, List.length_replicate] at hnew
    exact wp_value hrun (.of (hnew.put hd ⟨by simp [Ab.al], fun A hA => by
      have e : A = ⟨e, ety.width, List.replicate m ety.zeroD⟩ := by simpa [Ab.al] using hA.symm
      subst e
      exact ⟨by simp, by simp [upd, cutV]⟩⟩))
  | loadE t x y ty ho hm hx hf =>
    have h1 := hs.val x; rw [hx] at h1
    obtain ⟨ad, hv, hp⟩ := h1
    obtain ⟨v, hr, hrep⟩ := loadAny (P := P) (w := w) (M := M) (hT _ hm) hf (ad := ad) (fun hy => by obtain ⟨v, a, b⟩ := hp.2.1 hy; exact ⟨v, hs.mw _ _ a, b⟩)
      (fun fs hfs i f hi => by obtain ⟨c, v, a, b⟩ := hp.2.2 fs hfs i f hi; exact ⟨c, v, hs.mw _ _ a, b⟩)
    have hrun : (execOp ac.eval o).run P w = .ok (.value v) w := by
      simp only at hr
      simp only [execOp, ho, hv, bind_pure_comp, Sem.run_map, hr, Result.andThen_ok]
    exact wp_value hrun (.of (hs.put hd hrep))
  | loadA t x k i A y ty ho hm hx hA hy hf =>
    have h1 := hs.val x; rw [hx] at h1
    obtain ⟨_, hlive⟩ := h1
    obtain ⟨hil, g, hg, hv⟩ := hlive A hA
    obtain ⟨cs, hcs, hcell⟩ := hs.cells hA hg
    obtain ⟨hw1, hel⟩ := hcs.2 i y hy
    obtain ⟨v, hr, hrep⟩ := loadAny (P := P) (w := w) (M := M) (hT _ hm) hf (ad := ⟨g, i * A.sz, none⟩) (fun hyc => by obtain ⟨v, a, b⟩ := hel.1 hyc; exact ⟨v, (hcell _ _ a).1, b⟩)
      (fun fs hfs j f hj => by obtain ⟨c, v, a, b⟩ := hel.2 fs hfs j f hj; exact ⟨c, v, by rw [Addr.add_lit]; exact (hcell _ _ a).1, b⟩)
    have hrun : (execOp ac.eval o).run P w = .ok (.value v) w := by
      simp only at hr
      simp only [execOp, ho, hv, bind_pure_comp, Sem.run_map, hr, Result.andThen_ok]
    exact wp_value hrun (.of (hs.put hd hrep))
  | loadF t x k i f A fs y ty ho hm hx hA hi hy hf =>
    have h1 := hs.val x; rw [hx] at h1
    obtain ⟨_, hlive⟩ := h1
    obtain ⟨hil, g, hg, hv⟩ := hlive A hA
    obtain ⟨cs, hcs, hcell⟩ := hs.cells hA hg
    obtain ⟨hw1, hel⟩ := hcs.2 i _ hi
    obtain ⟨hyc, v, a, b⟩ := hel.2 fs rfl f y hy
    have hr := run_load_cell (P := P) (w := w) (hT _ hm) hf hyc (hcell _ _ a).1
    have hrun : (execOp ac.eval o).run P w = .ok (.value v) w := by
      simp only at hr
      simp only [execOp, ho, hv, bind_pure_comp, Sem.run_map, hr, Result.andThen_ok]
    exact wp_value hrun (.of (hs.put hd b))
  | fieldA t x f Fs k i A ho hm hl hx hA =>
    have h1 := hs.val x; rw [hx] at h1
    obtain ⟨hus, hlive⟩ := h1
    obtain ⟨fds, fd, hun, hfd, hoff, ⟨i', hi, hi1⟩, _⟩ := field_at (hT _ hm) (f := f) hl
    obtain ⟨hil, g, hg, hv⟩ := hlive A hA
    have hrun : (execOp ac.eval o).run P w = .ok (.value (.pointer (some ⟨g, i * A.sz + f, none⟩))) w := by
      simp only [execOp, ho, Instr.fieldAt, bind_pure_comp, Sem.run_bind, Sem.run_map, run_underlying hun, Result.andThen_ok, hfd, hv, Instr.sureAddr, Sem.run_pure, fieldPlace, sizeOf, typeInfo, run_program, hi, hi1, Nat.one_ne_zero, if_false, hoff]
      rw [Addr.add_lit]
    exact wp_value hrun (.of (hs.put hd ⟨hus, fun A' hA' => by
      rw [hA] at hA'
      have e := Option.some.inj hA'
      subst e
      exact ⟨hil, g, hg, rfl⟩⟩))
  | sliceA t x hi e ety k m h A ho hm hE hx hA hhi hh =>
    have h1 := hs.val x; rw [hx] at h1
    obtain ⟨hus, hlive⟩ := h1
    obtain ⟨hmA, hv⟩ := hlive A hA
    have hu := (hT _ hm).und
    simp only at hu
    have hrun : (execOp ac.eval o).run P w = .ok (.value (cutV (γ k) h)) w := by
      have hsr := run_sizeOf (hT _ hE) (P := P) w
      simp only at hsr
      rcases ownBlock_live hs hA with ⟨hg, hn⟩ | ⟨g, cap, hg, hnc, hcm⟩
      · have hm0 : m = 0 := by rw [hn] at hmA; simpa using hmA
        subst hm0
        have hh0 : h = 0 := by omega
        subst hh0
        have hb := sliceBounds_run P w 0 0 none hi ac.eval 0 0 (Nat.le_refl _) rfl (boundOf_run hs hhi) (Nat.le_refl _) (Nat.le_refl _)
        rw [hg] at hv ⊢
        simp only [Option.map_none] at hb
        simp only [execOp, ho, hv, cutV, Instr.sliceAt, bind_pure_comp, Sem.run_bind, Sem.run_map, run_underlying hu, Result.andThen_ok, Instr.slice, Option.map_none, hb, hsr, Nat.sub_self, if_true]
      · have hb := sliceBounds_run P w m cap none hi ac.eval 0 h (by omega) rfl (boundOf_run hs hhi) (Nat.zero_le _) hh
        rw [hg] at hv ⊢
        simp only [Option.map_none] at hb
        simp only [execOp, ho, hv, cutV, Instr.sliceAt, bind_pure_comp, Sem.run_bind, Sem.run_map, run_underlying hu, Result.andThen_ok, Instr.slice, Option.map_none, hb, hsr, Nat.sub_zero]
        simp [Addr.add_zero']
    exact wp_value hrun (.of (hs.put hd ⟨hus, fun A' hA' => by
      rw [hA] at hA'
      have e := Option.some.inj hA'
      subst e
      exact ⟨by omega, rfl⟩⟩))
  | indexA t x ix e ety k m j kd A ho hm hE hx hA hsz hi hj =>
    have h1 := hs.val x; rw [hx] at h1
    have e2 : ac.eval ix = .int kd (j : Int) := by have := hs.val ix; rw [hi] at this; exact rep_sc this
    obtain ⟨hus, hlive⟩ := h1
    obtain ⟨hmA, hv⟩ := hlive A hA
    have hu := (hT _ hm).und
    simp only at hu
    have hsr := run_sizeOf (hT _ hE) (P := P) w
    simp only at hsr
    rcases ownBlock_live hs hA with ⟨hg, hn⟩ | ⟨g, cap, hg, hnc, hcm⟩
    · rw [hn] at hmA; simp at hmA; omega
    · have hrun : (execOp ac.eval o).run P w = .ok (.value (.pointer (some ⟨g, j * A.sz, none⟩))) w := by
        rw [hg] at hv
        simp only [execOp, ho, hv, e2, cutV]
        simp [Instr.indexAt, asIntOf, run_underlying hu, hj, hsr, hsz, Addr.add_lit]
      exact wp_value hrun (.of (hs.put hd ⟨hus, fun A' hA' => by
        rw [hA] at hA'
        have e := Option.some.inj hA'
        subst e
        exact ⟨by omega, g, by rw [hg]; rfl, rfl⟩⟩))
  | lenA t x e k m A ho hm hx hA =>
    have h1 := hs.val x; rw [hx] at h1
    obtain ⟨hus, hlive⟩ := h1
    obtain ⟨hmA, hv⟩ := hlive A hA
    have hu := (hT _ hm).und
    simp only at hu
    have hrun : (execOp ac.eval o).run P w = .ok (.value (.int .i64 m)) w := by
      rcases ownBlock_live hs hA with ⟨hg, hn⟩ | ⟨g, cap, hg, hnc, hcm⟩ <;> rw [hg] at hv <;>
        simp [execOp, ho, resolve, invoke, builtin, hv, cutV, Builtin.len_, run_underlying hu, goInt]
    exact wp_value hrun (.of (hs.put hd (.sc _ rfl)))
  | nilA x k i A ho hx hA =>
    have h1 := hs.val x; rw [hx] at h1
    obtain ⟨_, g, hg, hv⟩ := h1.2 A hA
    have hrun : (execOp ac.eval o).run P w = .ok (.value (ac.eval x)) w := by
      simp only [execOp, ho, hv, Sem.run_pure]
    exact wp_value hrun (.of (hs.put hd h1))
  | call fx args tys f as ks r s al ho hf hx hc hr =>
    have h1 := hs.val fx; rw [hf] at h1
    obtain ⟨M', h2, hle, hl, hra⟩ := SimW.toAs hx rfl hs (vs := fun j => (args.map ac.eval).getD j undef) (fun j s hj => by
      rw [List.getElem?_map] at hj
      cases hp : args.toList[j]? with
      | none => simp [hp] at hj
      | some p =>
        simp [hp] at hj; subst hj
        have hp' : args[j]? = some p := by simpa using hp
        have e : (args.map ac.eval).getD j undef = ac.eval p := by simp [hp']
        rw [e]; exact hs.val p)
    refine wp_call (run_call ho h1 hc.ent) (hc.run w M' (args.map ac.eval) h2.mw (by rw [hl]; simp) hra) fun v w' ha => ?_
    obtain ⟨v', M'', he, hb, hle2, hmw, hmn, hres⟩ := ha
    cases he
    exact res_put h2 hd (hr.us (shares_c τ ks).2.1) hb hle2 hmw hmn hres
  | callFlat fx args tys f as ks r s ho hf hx hc hr =>
    have h1 := hs.val fx; rw [hf] at h1
    obtain ⟨M', h2, hle, hl, hra⟩ := SimW.toAs hx rfl hs (vs := fun j => (args.map ac.eval).getD j undef) (fun j s hj => by
      rw [List.getElem?_map] at hj
      cases hp : args.toList[j]? with
      | none => simp [hp] at hj
      | some p =>
        simp [hp] at hj; subst hj
        have hp' : args[j]? = some p := by simpa using hp
        have e : (args.map ac.eval).getD j undef = ac.eval p := by simp [hp']
        rw [e]; exact hs.val p)
    refine wp_call (run_call ho h1 hc.ent) (hc.run w M' (args.map ac.eval) h2.mw (by rw [hl]; simp) hra) fun v w' ha => ?_
    obtain ⟨v', M'', he, hb, hle2, hmw, hmn, hres⟩ := ha
    cases he
    exact flat_put hs hd hr hb hres
end
end Go.DL
