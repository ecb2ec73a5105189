/- Part of an evaluator of Go code on plain data, proved sound for the model: lemmas alone, for every program; each states its own conditions. -/
import Derived.Test.YtjhjedfnjimflaaEngH
namespace Go.DL
open Go.RowKit
section
variable {X : Nat → Prop} {w0 : World} {M0 : Mem} {n : Nat} {τ : Ab} {ac : Act} {w : World} {M : Mem} {γ : Nat → Value} {P : Program} {T : Tys}

/-- The cells that an operand of an append holds, where they stand. -/
theorem cont_at (h : SimW X w0 M0 n τ ac w M γ) {s : S} {ys : List D} (hc : ToCont τ s ys) {v : Value} (hv : RepS M τ γ s v) {sz : Nat} (hw : ∀ y ∈ ys, y.width = sz) :
    ∃ a cap news, v = .slice a ys.length cap ∧ CellsOK M sz ys news ∧ ((a = none ∧ ys = []) ∨ ∃ ad, a = some ad ∧ ∀ j u, news[j]? = some u → w.cell? (ad.add j) = some u) := by
  cases hc with
  | d xs =>
    cases hv with
    | nil a cap => 
      refine ⟨a, cap, [], rfl, ⟨by simp, fun j x hx => by simp at hx⟩, ?_⟩
      cases a with
      | none => exact .inl ⟨rfl, rfl⟩
      | some ad => exact .inr ⟨ad, rfl, fun j u hu => by simp at hu⟩
    | sl _ ad cap sz' c hcap hsp hw' hm hs hc ha =>
      by_cases h0 : ys.length = 0
      · have e := List.eq_nil_of_length_eq_zero h0
        subst e
        exact ⟨some ad, cap, [], rfl, ⟨by simp, fun j x hx => by simp at hx⟩, .inr ⟨ad, rfl, fun j u hu => by simp at hu⟩⟩
      · have hsz : sz' = sz := by
          have h3 := List.getElem_mem (l := ys) (n := 0) (by omega)
          rw [← hw _ h3, hw' _ h3]
        subst hsz
        let news := (List.range (ys.length * sz')).map c
        have hget : ∀ j, j < ys.length * sz' → news[j]? = some (c j) := fun j hj => by simp [news, hj]
        refine ⟨some ad, cap, news, rfl, ⟨by simp [news], fun j x hx => ⟨hw' x (List.mem_of_getElem? hx), fun hcx => ?_, fun fs hfs i f hi => ?_⟩⟩, .inr ⟨ad, rfl, fun j u hu => ?_⟩⟩
        · have hj := (List.getElem?_eq_some_iff.1 hx).1
          have h1 := mul_succ_le (sz := sz') hj
          have h2 : sz' = 1 := by rw [← hw' x (List.mem_of_getElem? hx)]; exact width_one hcx
          exact ⟨c (j * sz'), hget _ (by omega), hs j x hx hcx⟩
        · subst hfs
          have hj := (List.getElem?_eq_some_iff.1 hx).1
          have h1 := mul_succ_le (sz := sz') hj
          have h2 : fs.length = sz' := hw' _ (List.mem_of_getElem? hx)
          have h3 := (List.getElem?_eq_some_iff.1 hi).1
          exact ⟨‹∀ (j : Nat) (fs : List D), ys[j]? = some (D.agg fs) → ∀ f, f ∈ fs → f.isCell = true› j fs hx f (List.mem_of_getElem? hi), c (j * sz' + i), hget _ (by omega), ha j fs hx i f hi⟩
        · have hj : j < ys.length * sz' := by have := (List.getElem?_eq_some_iff.1 hu).1; simpa [news] using this
          rw [hget j hj] at hu
          have e := Option.some.inj hu
          subst e
          exact h.mw _ _ (hm j hj)
  | nil => exact ⟨none, 0, [], hv, ⟨by simp, fun j x hx => by simp at hx⟩, .inl ⟨rfl, rfl⟩⟩
  | av k m A hA =>
    obtain ⟨hm, e⟩ := hv.2 A hA
    have hlen : (A.xs.take m).length = m := by simp; omega
    rcases ownBlock_live h hA with ⟨hg, hn⟩ | ⟨g, cap, hg, hnc, hcm⟩
    · have hm0 : m = 0 := by rw [hn] at hm; simpa using hm
      subst hm0
      refine ⟨none, 0, [], by rw [e, hg]; simp [cutV], ⟨by simp, fun j x hx => by simp at hx⟩, .inl ⟨rfl, by simp⟩⟩
    · obtain ⟨cs, hcs, hcell⟩ := h.cells hA (g := g) (by rw [hg]; rfl)
      have hk := cellsOK_take hcs hm
      by_cases h0 : m = 0
      · subst h0
        exact ⟨some ⟨g, 0, none⟩, cap, [], by rw [e, hg]; simp [cutV], ⟨by simp, fun j x hx => by simp at hx⟩, .inr ⟨_, rfl, fun j u hu => by simp at hu⟩⟩
      · have hsz : A.sz = sz := by
          have h3 : A.xs[0]? = some (A.xs[0]'(by omega)) := List.getElem?_eq_getElem (by omega)
          have h4 : (A.xs.take m)[0]? = some (A.xs[0]'(by omega)) := by rw [List.getElem?_take, if_pos (by omega), h3]
          rw [← (hcs.2 0 _ h3).1]
          exact hw _ (List.mem_of_getElem? h4)
        rw [hsz] at hk
        refine ⟨some ⟨g, 0, none⟩, cap, _, by rw [e, hg, hlen]; simp [cutV], hk, .inr ⟨_, rfl, fun j u hu => ?_⟩⟩
        rw [List.getElem?_take] at hu
        split at hu
        · rw [addr_add0]; exact (hcell j u hu).1
        · cases hu

theorem run_append_nil' (w : World) (base : Nat) (t ty e : TypeId) (i : TypeInfo) (size : Nat) (ht : P.underlying t = some (.slice e)) (hi : P.info? e = some i)
    (v : Value) (n : Nat) (xs : List Value) (hown : w.ownsRow base e size v n xs) (c : Nat) : (Builtin.append_ #[t, t] ty #[v, .slice none 0 c]).run P w = .ok v w := by
  rcases hown.2 with ⟨rfl, rfl⟩ | ⟨g, cap, cur, rfl, _, _, hnc, _⟩
  · simp [Builtin.append_, run_underlying ht, sizeOf, typeInfo, hi, Builtin.lenOf, Builtin.firstCells]
  · simp [Builtin.append_, run_underlying ht, sizeOf, typeInfo, hi, Builtin.lenOf, Builtin.firstCells, hnc, storeCells]

/-- append, whatever the operand: the run. -/
theorem run_append_all (hT : TOK P T) {t e : TypeId} {ety : Ty} (hm : (t, .sl e) ∈ T) (hE : (e, ety) ∈ T) (hpos : 0 < ety.width) {ty : TypeId} {v : Value} {n : Nat} {cs : List Value} (hown : w.ownsRow 0 e ety.width v n cs)
    {a : Option Addr} {m cap : Nat} {ys : List D} {news : List Value} (hc : CellsOK M ety.width ys news) (hm' : ys.length = m) (hnews : (a = none ∧ ys = []) ∨ ∃ ad, a = some ad ∧ ∀ j u, news[j]? = some u → w.cell? (ad.add j) = some u)
    (hl : n + m ≤ 34359738368) : ∃ v' w', (Builtin.append_ #[t, t] ty #[v, .slice a m cap]).run P w = .ok v' w' ∧ w'.ownsRow 0 e ety.width v' (n + m) (cs ++ news) ∧ w.grownBy w' v.ownBlock ∧
      (v'.ownBlock = v.ownBlock ∨ v'.ownBlock = some w.heap.size) := by
  have hu := (hT _ hm).und
  simp only at hu
  obtain ⟨i, hi, his, hiz, hib⟩ := (hT _ hE).info
  simp only at hi his hiz
  obtain ⟨hzs, _, _⟩ := (ety.zero_rep M).cells_one
  rw [ety.zero_width] at hzs
  rcases hnews with ⟨rfl, rfl⟩ | ⟨ad, rfl, hcell⟩
  · have hm0 : m = 0 := by simpa using hm'.symm
    subst hm0
    have hn : news = [] := List.eq_nil_of_length_eq_zero (by simpa using hc.1)
    subst hn
    refine ⟨v, w, run_append_nil' w 0 t ty e i ety.width hu hi v n cs hown cap, by simpa using hown, ⟨rfl, rfl, rfl, Nat.le_refl _, fun _ _ _ => rfl⟩, .inl rfl⟩
  · have hb : (n + m) * i.bytes ≤ 140737488355328 := by
      have := Nat.mul_le_mul hl hib
      omega
    obtain ⟨v', w', h1, h2, h3, _, h5⟩ := run_append_own_at (P := P) w 0 t ty e i ety.zeroV ety.width i.bytes hu hi hiz his rfl hzs hpos v n cs hown ad m cap news (by rw [hc.1, hm']) hcell (cellsOK_oneCell hc)
      (by simp only [maxLen]; omega) hb (Nat.zero_le _)
    exact ⟨v', w', h1, h2, h3, h5⟩

theorem run_append_op {o : Oper} {x y : Operand} {t : TypeId} (ho : o.op = .call { callee := .builtin .append, args := #[x, y], argTypes := #[t, t] }) {v1 v2 v' : Value} {w' : World} (h1 : ac.eval x = v1) (h2 : ac.eval y = v2)
    (hr : (Builtin.append_ #[t, t] o.type #[v1, v2]).run P w = .ok v' w') : (execOp ac.eval o).run P w = .ok (.value v') w' := by
  simp only [execOp, ho, resolve, invoke, builtin, Sem.run_bind, Sem.run_pure, Result.andThen_ok, List.map_toArray, List.map_cons, List.map_nil, h1, h2, hr]

theorem WEff.sound (hT : TOK P T) {o : Oper} {e : Ef} (hd : ∀ d, o.dst = some d → d < n) (h : WEff P T o τ e) (hs : SimW X w0 M0 n τ ac w M γ) (Q : Exit → Act → World → Prop) :
    o.wp P ac w (fun ac' w' => Sim X w0 M0 n (τ.eff o.dst e) ac' w') Q := by
  cases h with
  | storeA t x y k i A z ks ty ho hm hx hA hy hsh hi hz hw =>
    obtain ⟨M', h1, hle, hr⟩ := hs.toD hy (hs.val y)
    obtain ⟨e1, e2, e3⟩ := shares_c τ ks
    have h2 := hs.val x; rw [hx] at h2
    obtain ⟨_, hlive⟩ := h2
    obtain ⟨_, g, hg, hv⟩ := hlive A hA
    obtain ⟨hcs, hone, hel⟩ := hr.cells_one
    have hul : (ac.eval y).cells.toList.length = A.sz := by rw [Array.length_toList, hcs, hz]
    obtain ⟨w', hst, hsim⟩ := h1.storeRow (P := P) (k := k) (A := A) (by rw [e1]; exact hA) hsh hg (o := i * A.sz) (us := (ac.eval y).cells.toList) (by rw [hul]; exact mul_succ_le hi) hone (xs := A.xs.set i z) (by simp)
      (fun cs hc => cellsOK_set hc hi hz hul hel)
    have hsr := run_sizeOf (hT _ hm) (P := P) w
    simp only at hsr
    have hrun : (execOp ac.eval o).run P w = .ok .skip w' := by
      simp only [execOp, ho, hv, Instr.storeAt, Instr.sureAddr, storeVar, Sem.run_bind, Sem.run_pure, Result.andThen_ok, hsr]
      rw [if_neg (by simp only [ne_eq, Decidable.not_not]; rw [hcs, hz, hw]), hst]
      rfl
    exact wp_skip' hrun (.of (hsim.put hd rfl))
  | storeF t x y k i f A fs z ks ty ho hm hx hA hy hsh hi hf hz hw =>
    obtain ⟨M', h1, hle, hr⟩ := hs.toD hy (hs.val y)
    obtain ⟨e1, e2, e3⟩ := shares_c τ ks
    have h2 := hs.val x; rw [hx] at h2
    obtain ⟨_, hlive⟩ := h2
    obtain ⟨_, g, hg, hv⟩ := hlive A hA
    obtain ⟨hcs, hone, hel⟩ := hr.cells_one
    have hw1 : z.width = 1 := width_one hz
    have hvc : (ac.eval y).cells = #[ac.eval y] := by
      have := hr.oneCell hz
      cases hh : ac.eval y <;> rw [hh] at this <;> first | rfl | cases this
    have hsz : fs.length = A.sz := by
      obtain ⟨cs, hc, _⟩ := h1.cells (k := k) (A := A) (by rw [e1]; exact hA) hg
      exact (hc.2 i _ hi).1
    have hil := (List.getElem?_eq_some_iff.1 hi).1
    have hms := mul_succ_le (sz := A.sz) hil
    obtain ⟨w', hst, hsim⟩ := h1.storeRow (P := P) (k := k) (A := A) (by rw [e1]; exact hA) hsh hg (o := i * A.sz + f) (us := [ac.eval y]) (by simp; omega) (by simpa using hr.oneCell hz) (xs := A.xs.set i (.agg (fs.set f z))) (by simp)
      (fun cs hc => cellsOK_setF hc hi hf hz hr)
    have hsr := run_sizeOf (hT _ hm) (P := P) w
    simp only at hsr
    have hrun : (execOp ac.eval o).run P w = .ok .skip w' := by
      simp only [execOp, ho, hv, Instr.storeAt, Instr.sureAddr, storeVar, Sem.run_bind, Sem.run_pure, Result.andThen_ok, hsr, hvc]
      rw [if_neg (by simp [hw]), hst]
      rfl
    exact wp_skip' hrun (.of (hsim.put hd rfl))
  | appendA t x y e ety k m d A ys ho hdst hu hds hm hE hx hA hsh he hsz hy hw hl =>
    subst he
    obtain ⟨hus, ⟨⟨cs, hown, hcs, hM⟩, hpos, hnew⟩⟩ := hs.ow k A hA
    have h1 := hs.val x; rw [hx] at h1
    obtain ⟨hmA, hv⟩ := h1.2 A hA
    obtain ⟨a, cap, news, hvy, hc, hat⟩ := cont_at hs hy (hs.val y) hw
    rw [← hsz] at hown hcs hpos
    obtain ⟨v', w', hr, hown', hgr, hob⟩ := run_append_all (P := P) (T := T) hT hm hE hpos (ty := o.type) (own_prefix hown hmA) (cap := cap) hc rfl hat hl
    have hrun := run_append_op (P := P) ho hv hvy hr
    have hcut : (cutV (γ k) m).ownBlock = (γ k).ownBlock := by
      rcases ownBlock_live hs hA with ⟨hg, _⟩ | ⟨g, cap, hg, _⟩ <;> rw [hg] <;> rfl
    rw [hcut] at hgr hob
    have hlen : (A.xs.take m ++ ys).length = m + ys.length := by simp; omega
    have hsim := hs.app (k := k) (d := d) (A := A) (xs' := A.xs.take m ++ ys) hA hsh hu hds hgr (by rw [hlen, ← hsz]; exact hown') (by rw [← hsz]; exact cellsOK_append (cellsOK_take hcs hmA) hc)
      (fun g hg => by rcases hob with e | e
                      · exact .inl (e ▸ hg)
                      · rw [e] at hg; exact .inr (Option.some.inj hg).symm)
    refine wp_value hrun (.of (hsim.put hd ⟨by simp [Ab.al], fun A' hA' => ?_⟩))
    have e : A' = ⟨A.e, A.sz, A.xs.take m ++ ys⟩ := by simpa [Ab.al] using hA'.symm
    subst e
    refine ⟨Nat.le_of_eq hlen.symm, ?_⟩
    rcases own_form hown' with ⟨e, h0⟩ | ⟨g, cap, e, _, _⟩
    · rw [e, h0]; simp [upd, cutV]
    · rw [e]; simp [upd, cutV]
  | appendN t x y e ety d ys ho hdst hu hm hE hp hx hy hw hl =>
    have h1 := hs.val x; rw [hx] at h1
    obtain ⟨a, cap, news, hvy, hc, hat⟩ := cont_at hs hy (hs.val y) hw
    obtain ⟨v', w', hr, hown', hgr, hob⟩ := run_append_all (P := P) (T := T) hT hm hE hp (ty := o.type) (World.ownsRow_nil w 0 e ety.width) (cap := cap) hc rfl hat (by omega)
    have hrun := run_append_op (P := P) ho h1 hvy hr
    simp only [Nat.zero_add, List.nil_append] at hown'
    have hblk : ∀ j, j < w.heap.size → w'.heap[j]? = w.heap[j]? := fun j hj => hgr.block j hj (by simp [Value.ownBlock])
    have hbelow : Below w.heap.size w w' := ⟨hgr.os, hgr.tape, hgr.output, hgr.size, hblk⟩
    have hob' : ∀ g, v'.ownBlock = some g → g = w.heap.size := fun g hg => by
      rcases hob with e | e
      · rw [e] at hg; simp [Value.ownBlock] at hg
      · rw [e] at hg; exact (Option.some.inj hg).symm
    have hown2 : w'.ownsRow w.heap.size e ety.width v' ys.length news := by
      refine ⟨hown'.1, ?_⟩
      rcases hown'.2 with hl | ⟨g, cap, cur, hv, r1, r2⟩
      · exact .inl hl
      · exact .inr ⟨g, cap, cur, hv, Nat.le_of_eq (hob' g (by rw [hv]; rfl)).symm, r2⟩
    have hsim := hs.al (k := d) (A := ⟨e, ety.width, ys⟩) (M' := M) hu hbelow (Mem.le_refl M) (fun a u hau => by
      have h3 := hs.mw a u hau
      rw [hbelow.cell (block_lt_of_cell h3)]; exact h3) (fun _ _ hau => .inl hau) news hown2 hc hp (fun g hg off sp => by rw [hob' g hg]; exact no_mem_new hs (Nat.le_refl _) off sp)
    refine wp_value hrun (.of (hsim.put hd ⟨by simp [Ab.al], fun A' hA' => ?_⟩))
    have e : A' = ⟨e, ety.width, ys⟩ := by simpa [Ab.al] using hA'.symm
    subst e
    refine ⟨Nat.le_refl _, ?_⟩
    rcases own_form hown' with ⟨e, h0⟩ | ⟨g, cap, e, _, _⟩
    · rw [e, h0]; simp [upd, cutV]
    · rw [e]; simp [upd, cutV]
end
end Go.DL
