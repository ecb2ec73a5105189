/- Part of an evaluator of Go code on plain data, proved sound for the model: lemmas alone, for every program; each states its own conditions. -/
import Derived.Test.YtjhjedfnjimflaaEngH
namespace Go.DL
open Go.RowKit
section
variable {X : Env} {w0 : World} {M0 : Mem} {n : Nat} {τ : Ab} {ac : Act} {w : World} {M : Mem} {γ : Nat → Value} {P : Program} {T : Tys}

/-- The cells that an operand of an append holds, where they stand. -/
theorem cont_at (h : SimW X w0 M0 n τ ac w M γ) {s : S} {ys : List D} (hc : ToCont τ s ys) {v : Value} (hv : RepS M τ γ s v) {sz : Nat} (hw : ∀ y ∈ ys, y.width = sz) :
    ∃ a cap news, v = .slice a ys.length cap ∧ CellsOK M sz ys news ∧ ((a = none ∧ ys = []) ∨ ∃ ad, a = some ad ∧ ∀ j u, news[j]? = some u → w.cell? (ad.add j) = some u) := by
  cases hc with
  | d xs =>
    cases hv with
    | nil a cap => 
      refine ⟨a, cap, [], rfl, ⟨by simp, fun j x hx => by simp at hx⟩, ?_⟩
      cases a with
      | none => exact .inl ⟨rfl, rfl⟩
      | some ad => exact .inr ⟨ad, rfl, fun j u hu => by simp at hu⟩
    | sl _ ad cap sz' c hcap hsp hw' hm hs hc ha =>
      by_cases h0 : ys.length = 0
      · have e := List.eq_nil_of_length_eq_zero h0
        subst e
        exact ⟨some ad, cap, [], rfl, ⟨by simp, fun j x hx => by simp at hx⟩, .inr ⟨ad, rfl, fun j u hu => by simp at hu⟩⟩
      · have hsz : sz' = sz := by
          have h3 := List.getElem_mem (l := ys) (n := 0) (by omega)
          rw [← hw _ h3, hw' _ h3]
        subst hsz
        let news := (List.range (ys.length * sz')).map c
        have hget : ∀ j, j < ys.length * sz' → news[j]? = some (c j) := fun j hj => by simp [news, hj]
        refine ⟨some ad, cap, news, rfl, ⟨by simp [news], fun j x hx => ⟨hw' x (List.mem_of_getElem? hx), fun hcx => ?_, fun fs hfs i f hi => ?_⟩⟩, .inr ⟨ad, rfl, fun j u hu => ?_⟩⟩
        · have hj := (List.getElem?_eq_some_iff.1 hx).1
          have h1 := mul_succ_le (sz := sz') hj
          have h2 : sz' = 1 := by rw [← hw' x (List.mem_of_getElem? hx)]; exact width_one hcx
          exact ⟨c (j * sz'), hget _ (by omega), hs j x hx hcx⟩
        · subst hfs
          have hj := (List.getElem?_eq_some_iff.1 hx).1
          have h1 := mul_succ_le (sz := sz') hj
          have h2 : fs.length = sz' := hw' _ (List.mem_of_getElem? hx)
          have h3 := (List.getElem?_eq_some_iff.1 hi).1
          exact ⟨‹∀ (j : Nat) (fs : List D), ys[j]? = some (D.agg fs) → ∀ f, f ∈ fs → f.isCell = true› j fs hx f (List.mem_of_getElem? hi), c (j * sz' + i), hget _ (by omega), ha j fs hx i f hi⟩
        · have hj : j < ys.length * sz' := by have := (List.getElem?_eq_some_iff.1 hu).1; simpa [news] using this
          rw [hget j hj] at hu
          have e := Option.some.inj hu
          subst e
          exact h.mw _ _ (hm j hj)
  | nil => exact ⟨none, 0, [], hv, ⟨by simp, fun j x hx => by simp at hx⟩, .inl ⟨rfl, rfl⟩⟩
  | av k m A hA =>
    obtain ⟨hm, e⟩ := hv.2 A hA
    have hlen : (A.xs.take m).length = m := by simp; omega
    rcases ownBlock_live h hA with ⟨hg, hn⟩ | ⟨g, cap, hg, hnc, hcm⟩
    · have hm0 : m = 0 := by rw [hn] at hm; simpa using hm
      subst hm0
      refine ⟨none, 0, [], by rw [e, hg]; simp [cutV], ⟨by simp, fun j x hx => by simp at hx⟩, .inl ⟨rfl, by simp⟩⟩
    · obtain ⟨cs, hcs, hcell⟩ := h.cells hA (g := g) (by rw [hg]; rfl)
      have hk := cellsOK_take hcs hm
      by_cases h0 : m = 0
      · subst h0
        exact ⟨some ⟨g, 0, none⟩, cap, [], by rw [e, hg]; simp [cutV], ⟨by simp, fun j x hx => by simp at hx⟩, .inr ⟨_, rfl, fun j u hu => by simp at hu⟩⟩
      · have hsz : A.sz = sz := by
          have h3 : A.xs[0]? = some (A.xs[0]'(by omega)) := List.getElem?_eq_getElem (by omega)
          have h4 : (A.xs.take m)[0]? = some (A.xs[0]'(by omega)) := by rw [List.getElem?_take, if_pos (by omega), h3]
          rw [← (hcs.2 0 _ h3).1]
          exact hw _ (List.mem_of_getElem? h4)
        rw [hsz] at hk
        refine ⟨some ⟨g, 0, none⟩, cap, _, by rw [e, hg, hlen]; simp [cutV], hk, .inr ⟨_, rfl, fun j u hu => ?_⟩⟩
        rw [List.getElem?_take] at hu
        split at hu
        · rw [addr_add0]; exact (hcell j u hu).1
        · cases hu

theorem run_append_nil' (w : World) (base : Nat) (t ty e : TypeId) (i : TypeInfo) (size : Nat) (ht : P.underlying t = some (.slice e)) (hi : P.info? e = some i)
    (v : Value) (n : Nat) (xs : List Value) (hown : w.ownsRow base e size v n xs) (c : Nat) : (Builtin.append_ #[t, t] ty #[v, .slice none 0 c]).run P w = .ok v w := by
  rcases hown.2 with ⟨rfl, rfl⟩ | ⟨g, cap, cur, rfl, _, _, hnc, _⟩
  · simp [Builtin.append_, run_underlying ht, sizeOf, typeInfo, hi, Builtin.lenOf, Builtin.firstCells]
  · simp [Builtin.append_, run_underlying ht, sizeOf, typeInfo, hi, Builtin.lenOf, Builtin.firstCells, hnc, storeCells]

/-- append, whatever the operand: the run. -/
theorem run_append_all (hT : TOK P T) {t e : TypeId} {ety : Ty} (hm : (t, .sl e) ∈ T) (hE : (e, ety) ∈ T) (hpos : 0 < ety.width) {ty : TypeId} {v : Value} {n : Nat} {cs : List Value} (hown : w.ownsRow 0 e ety.width v n cs)
    {a : Option Addr} {m cap : Nat} {ys : List D} {news : List Value} (hc : CellsOK M ety.width ys news) (hm' : ys.length = m) (hnews : (a = none ∧ ys = []) ∨ ∃ ad, a = some ad ∧ ∀ j u, news[j]? = some u → w.cell? (ad.add j) = some u)
    (hl : n + m ≤ 34359738368) : ∃ v' w', (Builtin.append_ #[t, t] ty #[v, .slice a m cap]).run P w = .ok v' w' ∧ w'.ownsRow 0 e ety.width v' (n + m) (cs ++ news) ∧ w.grownBy w' v.ownBlock ∧
      (v'.ownBlock = v.ownBlock ∨ v'.ownBlock = some w.heap.size) := by
  have hu := (hT _ hm).und
  simp only at hu
  obtain ⟨i, hi, his, hiz, hib⟩ := (hT _ hE).info
  simp only at hi his hiz
  obtain ⟨hzs, _, _⟩ := (ety.zero_rep M).cells_one
  rw [ety.zero_width] at hzs
  rcases hnews with ⟨rfl, rfl⟩ | ⟨ad, rfl, hcell⟩
  · have hm0 : m = 0 := by simpa using hm'.symm
    subst hm0
    have hn : news = [] := List.eq_nil_of_length_eq_zero (by simpa using hc.1)
    subst hn
    refine ⟨v, w, run_append_nil' w 0 t ty e i ety.width hu hi v n cs hown cap, by simpa using hown, ⟨rfl, rfl, rfl, Nat.le_refl _, fun _ _ _ => rfl⟩, .inl rfl⟩
  · have hb : (n + m) * i.bytes ≤ 140737488355328 := by
      have := Nat.mul_le_mul hl hib
      omega
    obtain ⟨v', w', h1, h2, h3, _, h5⟩ := run_append_own_at (P := P) w 0 t ty e i ety.zeroV ety.width i.bytes hu hi hiz his rfl hzs hpos v n cs hown ad m cap news (by rw [hc.1, hm']) hcell (cellsOK_oneCell hc)
      (by simp only [maxLen]; omega) hb (Nat.zero_le _)
    exact ⟨v', w', h1, h2, h3, h5⟩

theorem run_append_op {o : Oper} {x y : Operand} {t : TypeId} (ho : o.op = .call { callee := .builtin .append, args := #[x, y], argTypes := #[t, t] }) {v1 v2 v' : Value} {w' : World} (h1 : ac.eval x = v1) (h2 : ac.eval y = v2)
    (hr : (Builtin.append_ #[t, t] o.type #[v1, v2]).run P w = .ok v' w') : (execOp ac.eval o).run P w = .ok (.value v') w' := by
  simp only [execOp, ho, resolve, invoke, builtin, Sem.run_bind, Sem.run_pure, Result.andThen_ok, List.map_toArray, List.map_cons, List.map_nil, h1, h2, hr]

theorem ownsRow_below {w : World} {b e sz n : Nat} {v : Value} {cs : List Value} (h : w.ownsRow b e sz v n cs) : w.ownsRow 0 e sz v n cs := by
  refine ⟨h.1, ?_⟩
  rcases h.2 with hl | ⟨g, cap, cur, hv, r1, r2⟩
  · exact .inl hl
  · exact .inr ⟨g, cap, cur, hv, Nat.zero_le _, r2⟩

/-- An array that lies in the world already, and is nobody's, becomes an own one. -/
theorem SimW.adopt (h : SimW X w0 M0 n τ ac w M γ) {k : Nat} {A : Arr} {v : Value} (hk : τ.us k = false) (hkn : k < n)
    (cs : List Value) (hown : w.ownsRow 0 A.e A.sz v A.xs.length cs) (hcs : CellsOK M A.sz A.xs cs) (hpos : 0 < A.sz)
    (hnm : ∀ g, v.ownBlock = some g → ∀ off sp, M ⟨g, off, sp⟩ = none) (hnew : ∀ g, v.ownBlock = some g → w0.heap.size ≤ g ∧ ∀ j B, τ.c j = some B → (γ j).ownBlock ≠ some g) :
    SimW X w0 M0 n (τ.al k A) ac w M (upd γ k v) := by
  refine ⟨h.dfr, h.fsz, h.os, h.tape, h.output, h.hsz, h.frame, h.m0, h.mw, h.mn, fun t => (h.slots t).goes (Mem.le_refl M) (Goes.al τ γ hk), fun j A' hA' => ?_, fun j j' A1 A2 g h1 h2 g1 g2 => ?_, fun j v' hj => ?_⟩
  · by_cases hj : j = k
    · subst hj
      have e : A' = A := by simpa [Ab.al] using hA'.symm
      subst e
      refine ⟨by simp [Ab.al], ⟨⟨cs, by simpa [upd] using hown, hcs, fun g hg off sp u hu => ?_⟩, hpos, fun g hg => ?_⟩⟩
      · simp only [upd, if_true] at hg
        rw [hnm g hg off sp] at hu; cases hu
      · simp only [upd, if_true] at hg
        exact .inl (hnew g hg).1
    · have hA : τ.c j = some A' := by simpa [Ab.al, hj] using hA'
      obtain ⟨h1, h2⟩ := h.ow j A' hA
      refine ⟨by simp [Ab.al, hj, h1], ?_⟩
      have e : upd γ k v j = γ j := by simp [upd, hj]
      rw [e]
      exact h2.keep (Mem.le_refl M) (fun _ _ => rfl) (fun _ _ _ _ _ hu => hu) id
  · by_cases e1 : j = k
    · by_cases e2 : j' = k
      · rw [e1, e2]
      · exfalso
        subst e1
        have hA : τ.c j' = some A2 := by simpa [Ab.al, e2] using h2
        simp only [upd, if_true] at g1
        simp only [upd, e2, if_false] at g2
        exact (hnew g g1).2 j' A2 hA g2
    · by_cases e2 : j' = k
      · exfalso
        subst e2
        have hA : τ.c j = some A1 := by simpa [Ab.al, e1] using h1
        simp only [upd, if_true] at g2
        simp only [upd, e1, if_false] at g1
        exact (hnew g g2).2 j A1 hA g1
      · simp only [upd, e1, e2, if_false] at g1 g2
        exact h.di j j' A1 A2 g (by simpa [Ab.al, e1] using h1) (by simpa [Ab.al, e2] using h2) g1 g2
  · obtain ⟨p1, p2, p3⟩ := h.pin j v' hj
    have hne : j ≠ k := by omega
    refine ⟨p1, p2, fun A' hA' => ?_⟩
    have hA : τ.c j = some A' := by simpa [Ab.al, hne] using hA'
    have e : upd γ k v j = γ j := by simp [upd, hne]
    rw [e]; exact p3 A' hA

/-- A call to which array k was lent is over. -/
theorem SimW.lent (h : SimW X w0 M0 n τ ac w M γ) {k : Nat} {A : Arr} (hk : τ.c k = some A) {w' : World} {M' : Mem} {xs : List D} (ha : LAfter w M (γ k) (some A) w' M' xs) :
    SimW X w0 M0 n (τ.up k ⟨A.e, A.sz, xs⟩) ac w' M' γ := by
  obtain ⟨hl, hlent⟩ := ha.lent A rfl
  obtain ⟨hus, hownk⟩ := h.ow k A hk
  have hblk : ∀ j A', τ.c j = some A' → j ≠ k → ∀ g, (γ j).ownBlock = some g → w'.heap[g]? = w.heap[g]? := fun j A' hA' hj g hg =>
    ha.frame g ((h.ow j A' hA').2.lt g hg) (fun A0 _ e => hj (h.di j k A' A g hA' hk hg e))
  have hgoes : Goes τ (τ.up k ⟨A.e, A.sz, xs⟩) γ γ := Goes.up γ hk hl
  refine ⟨h.dfr, h.fsz, ha.os.trans h.os, ha.tape.trans h.tape, ha.output.trans h.output, Nat.le_trans h.hsz ha.hsz, fun j hj hX => ?_, Mem.le_trans h.m0 ha.le, ha.mw, fun a v hav => ?_, fun t => (h.slots t).goes ha.le hgoes, fun j A' hA' => ?_, fun j j' A1 A2 g h1 h2 g1 g2 => ?_, fun j v hj => ?_⟩
  · rw [ha.frame j (Nat.lt_of_lt_of_le hj h.hsz) (fun A0 _ e => ?_)]
    · exact h.frame j hj hX
    · rcases hownk.new j e with h1 | h1
      · omega
      · exact hX h1
  · rcases ha.mn a v hav with h1 | h1
    · exact h.mn a v h1
    · exact .inr (.inl (Nat.le_trans h.hsz h1))
  · by_cases e : j = k
    · subst e
      have e1 : A' = ⟨A.e, A.sz, xs⟩ := by simpa [Ab.up] using hA'.symm
      subst e1
      obtain ⟨cs, hown, hcs⟩ := hlent.own
      exact ⟨hus, ⟨⟨cs, hown, hcs, fun g hg off sp u hu => by rw [hlent.nm g hg off sp] at hu; cases hu⟩, hlent.pos, hownk.new⟩⟩
    · have hA : τ.c j = some A' := by simpa [Ab.up, e] using hA'
      obtain ⟨h1, h2⟩ := h.ow j A' hA
      refine ⟨h1, h2.keep ha.le (hblk j A' hA e) (fun g hg off sp u hu => ?_) id⟩
      rcases ha.mn _ u hu with h3 | h3
      · exact h3
      · have := h2.lt g hg
        simp only at h3
        omega
  · have f1 : ∃ B1, τ.c j = some B1 := by
      by_cases e : j = k
      · exact ⟨A, e ▸ hk⟩
      · exact ⟨A1, by simpa [Ab.up, e] using h1⟩
    have f2 : ∃ B2, τ.c j' = some B2 := by
      by_cases e : j' = k
      · exact ⟨A, e ▸ hk⟩
      · exact ⟨A2, by simpa [Ab.up, e] using h2⟩
    obtain ⟨B1, hB1⟩ := f1
    obtain ⟨B2, hB2⟩ := f2
    exact h.di j j' B1 B2 g hB1 hB2 g1 g2
  · obtain ⟨p1, p2, p3⟩ := h.pin j v hj
    refine ⟨p1, p2, fun A' hA' => ?_⟩
    by_cases e : j = k
    · exact p3 A (e ▸ hk)
    · exact p3 A' (by simpa [Ab.up, e] using hA')

/-- A call whose results are known by a property is over. -/
theorem SimW.past (h : SimW X w0 M0 n τ ac w M γ) {w' : World} {M' : Mem} {u : Value} {xs : List D} (ha : LAfter w M u none w' M' xs) : SimW X w0 M0 n τ ac w' M' γ :=
  h.call ⟨ha.os, ha.tape, ha.output, ha.hsz, fun j hj => ha.frame j hj (fun _ e => by cases e)⟩ ha.le ha.mw ha.mn

/-- What a call hands back is laid down; wb: the world before the call. -/
theorem res_adopt {wb : World} {r : Res} {dst : Option Nat} {s : S} {al : Option (Nat × Arr)} {v : Value} (h : SimW X w0 M0 n τ ac w M γ) (hd : ∀ d, dst = some d → d < n) (hr : ResE τ dst r s al)
    (hold : w0.heap.size ≤ wb.heap.size) (hlt : ∀ j B, τ.c j = some B → ∀ g, (γ j).ownBlock = some g → g < wb.heap.size) (hv : RepRes wb w M r v) :
    Sim X w0 M0 n ((τ.alO al).put dst s) (ac.put dst v) w := by
  have newb : ∀ {e sz n' : Nat} {u : Value} {cs : List Value}, w.ownsRow wb.heap.size e sz u n' cs → ∀ g, u.ownBlock = some g → w0.heap.size ≤ g ∧ ∀ j B, τ.c j = some B → (γ j).ownBlock ≠ some g := fun hown g hg => by
    have hb := (hown.lt g hg).1
    exact ⟨Nat.le_trans hold hb, fun j B hB e => by have := hlt j B hB g e; omega⟩
  cases hr with
  | d x => exact ⟨M, γ, h.put hd hv⟩
  | own A d h1 hu =>
    obtain ⟨hpos, cs, hown, hcs, hnm⟩ := hv
    refine ⟨M, _, (h.adopt hu (hd d h1) cs (ownsRow_below hown) hcs hpos hnm (newb hown)).put hd ⟨by simp [Ab.al], fun A' hA' => ?_⟩⟩
    have e : A' = A := by simpa [Ab.al] using hA'.symm
    subst e
    refine ⟨Nat.le_refl _, ?_⟩
    rcases own_form hown with ⟨e, h0⟩ | ⟨g, cap, e, _, _⟩
    · rw [e, h0]; simp [upd, cutV]
    · rw [e]; simp [upd, cutV]
  | ptr A d h1 hu =>
    obtain ⟨hpos, hlen, u, g, hug, hve, cs, hown, hcs, hnm⟩ := hv
    refine ⟨M, _, (h.adopt hu (hd d h1) cs (ownsRow_below hown) hcs hpos (fun g' hg' off sp => by rw [hug] at hg'; cases hg'; exact hnm off sp) (newb hown)).put hd ⟨by simp [Ab.al], fun A' hA' => ?_⟩⟩
    have e : A' = A := by simpa [Ab.al] using hA'.symm
    subst e
    exact ⟨hlen, g, by simpa [upd] using hug, by rw [hve]; simp⟩
  | tupd x rest =>
    obtain ⟨vs, e, hsz, h0, hrest⟩ := hv
    refine ⟨M, γ, h.put hd ⟨vs, e, by simp [hsz], fun j s hs => ?_⟩⟩
    cases j with
    | zero => simp at hs; subst hs; exact h0
    | succ j =>
      rw [List.getElem?_cons_succ, List.getElem?_map] at hs
      cases hx : rest[j]? with
      | none => simp [hx] at hs
      | some y => simp [hx] at hs; subst hs; exact hrest j y hx
  | tupo A rest d h1 hu =>
    obtain ⟨vs, e, hsz, ⟨hpos, cs, hown, hcs, hnm⟩, hrest⟩ := hv
    refine ⟨M, _, (h.adopt hu (hd d h1) cs (ownsRow_below hown) hcs hpos hnm (newb hown)).put hd ⟨vs, e, by simp [hsz], fun j s hs => ?_⟩⟩
    cases j with
    | zero =>
      simp at hs; subst hs
      refine ⟨by simp [Ab.al], fun A' hA' => ?_⟩
      have e : A' = A := by simpa [Ab.al] using hA'.symm
      subst e
      refine ⟨Nat.le_refl _, ?_⟩
      rcases own_form hown with ⟨e, h0⟩ | ⟨g, cap, e, _, _⟩
      · rw [e, h0]; simp [upd, cutV]
      · rw [e]; simp [upd, cutV]
    | succ j =>
      rw [List.getElem?_cons_succ, List.getElem?_map] at hs
      cases hx : rest[j]? with
      | none => simp [hx] at hs
      | some y => simp [hx] at hs; subst hs; exact hrest j y hx

theorem SimW.toLs {τ0 : Ab} {k : Nat} {A : Option Arr} {ss : List S} {xs : List A2} {ks : List Nat} (hd : ToLs τ0 k A ss xs ks) (hA : ∀ A0, A = some A0 → τ0.c k = some A0) : ∀ {τ : Ab} {M : Mem} {vs : Nat → Value}, τ.c = τ0.c → SimW X w0 M0 n τ ac w M γ →
    (∀ (j : Nat) (s : S), ss[j]? = some s → RepS M τ γ s (vs j)) →
    ∃ M', SimW X w0 M0 n (τ.shares ks) ac w M' γ ∧ Mem.le M M' ∧ xs.length = ss.length ∧ ∀ (j : Nat) (x : A2), xs[j]? = some x → RepA2 M' (γ k) x (vs j) := by
  induction hd with
  | nil => exact fun hc h hv => ⟨_, h, Mem.le_refl _, rfl, fun j x hx => by simp at hx⟩
  | @cons s x j ss xs ks h0 t ih =>
    intro τ M vs hc h hv
    have h00 : ToL τ k A s x j := h0.locl (fun i _ => by rw [hc])
    have hA' : ∀ A0, A = some A0 → τ.c k = some A0 := fun A0 e => by rw [hc]; exact hA A0 e
    have : ∃ M1, SimW X w0 M0 n (τ.shares j) ac w M1 γ ∧ Mem.le M M1 ∧ RepA2 M1 (γ k) x (vs 0) := by
      have hv0 := hv 0 _ rfl
      cases h00 with
      | d hd => exact h.toD hd hv0
      | fn f => exact ⟨M, h, Mem.le_refl M, hv0⟩
      | lv m A0 hA0 hm =>
        refine ⟨M, h, Mem.le_refl M, ?_⟩
        obtain ⟨h1, h2⟩ := hv0.2 A0 (hA' A0 hA0)
        show vs 0 = γ k
        rw [h2, hm]
        rcases ownBlock_live h (hA' A0 hA0) with ⟨e, h0⟩ | ⟨g, cap, e, _, _⟩
        · rw [e, h0]; rfl
        · rw [e]; rfl
      | lp A0 hA0 =>
        refine ⟨M, h, Mem.le_refl M, ?_⟩
        obtain ⟨_, g, hg, h2⟩ := hv0.2 A0 (hA' A0 hA0)
        exact ⟨g, hg, by rw [h2]; simp⟩
    obtain ⟨M1, h1, l1, r1⟩ := this
    obtain ⟨e1, e2, e3⟩ := shares_c τ j
    obtain ⟨M2, h2, l2, hl, r2⟩ := ih (vs := fun j => vs (j + 1)) (by rw [e1, hc]) h1 (fun i s' hs => (hv (i + 1) s' (by simpa using hs)).goes l1 (Goes.shares τ γ j))
    refine ⟨M2, by rw [shares_append]; exact h2, Mem.le_trans l1 l2, by simp [hl], fun i y hy => ?_⟩
    cases i with
    | zero =>
      simp at hy; subst hy
      cases x with
      | d x => exact Rep.mono l2 r1
      | fn f => exact r1
      | lv => exact r1
      | lp => exact r1
    | succ i => exact r2 i y (by simpa using hy)

theorem run_lcall {o : Oper} {fx : Operand} {args : Array Operand} {tys : Array TypeId} {f : FuncId} (ho : o.op = .call { callee := .value fx, args, argTypes := tys }) (hfx : fx = .func f) (he : Enters P f) :
    (execOp ac.eval o).run P w = .ok (.enter f (args.map ac.eval)) w := run_call ho (by rw [hfx]; rfl) he

theorem DEff.sound {o : Oper} {E : Ef → Prop} (hd : ∀ d, o.dst = some d → d < n) (h : DEff P T o τ E) (hs : SimW X w0 M0 n τ ac w M γ) (Q : Exit → Act → World → Prop) :
    o.wp P ac w (fun ac' w' => ∃ e, E e ∧ Sim X w0 M0 n (τ.eff o.dst e) ac' w') Q := by
  have args_at : ∀ (args : Array Operand) (j : Nat) (s : S), (args.toList.map τ.val)[j]? = some s → RepS M τ γ s ((args.map ac.eval).getD j undef) := fun args j s hj => by
    rw [List.getElem?_map] at hj
    cases hp : args.toList[j]? with
    | none => simp [hp] at hj
    | some p =>
      simp [hp] at hj; subst hj
      have hp' : args[j]? = some p := by simpa using hp
      have e : (args.map ac.eval).getD j undef = ac.eval p := by simp [hp']
      rw [e]; exact hs.val p
  have enter : ∀ {f : FuncId} {vs : Array Value} {R : Ending → World → Prop} {K : Act → World → Prop}, (execOp ac.eval o).run P w = .ok (.enter f vs) w → Calls P f vs w R → (∀ e w', R e w' → ∃ v, e = .returned v ∧ K (ac.put o.dst v) w') → o.wp P ac w K Q := fun hrun hc hK => by
    unfold Oper.wp
    rw [hrun]
    refine hc.mono fun e w' ha => ?_
    obtain ⟨v, he, hk⟩ := hK e w' ha
    subst he
    exact hk
  cases h with
  | lcall fx args tys f as ks k A R ho hfx hx hA hsh hc hr =>
    obtain ⟨M', h2, hle, hl, hra⟩ := SimW.toLs hx (fun A0 e => by cases e; exact hA) rfl hs (vs := fun j => (args.map ac.eval).getD j undef) (args_at args)
    obtain ⟨e1, e2, e3⟩ := shares_c τ ks
    have hA2 : (τ.shares ks).c k = some A := by rw [e1]; exact hA
    obtain ⟨hus, ⟨⟨cs, hown, hcs, hMn⟩, hpos, hnew⟩⟩ := h2.ow k A hA2
    have hlent : LentOK w M' A (γ k) := ⟨⟨cs, hown, hcs⟩, (fun g hg off sp => by
      cases hm : M' ⟨g, off, sp⟩ with
      | none => rfl
      | some u => have := (hMn g hg off sp u hm).1; rw [hsh] at this; cases this), hpos⟩
    refine enter (run_lcall ho hfx hc.ent) (hc.run w M' (γ k) (args.map ac.eval) h2.mw (fun A0 e => by cases e; exact hlent) (by rw [hl]; simp) hra) fun e w' ha => ?_
    obtain ⟨v, M'', r, xs, hR, he, haf, hres⟩ := ha
    refine ⟨v, he, ?_⟩
    obtain ⟨s, al, hre, hE⟩ := hr r xs hR
    refine ⟨_, hE, ?_⟩
    have h3 := h2.lent hA2 haf
    exact res_adopt (wb := w) h3 hd (hre.us (show ((τ.shares ks).up k _).us = τ.us from e2)) h2.hsz (fun j B hB g hg => by
      have : ∃ B', (τ.shares ks).c j = some B' := by
        by_cases e : j = k
        · exact ⟨A, e ▸ hA2⟩
        · exact ⟨B, by simpa [Ab.up, Ab.upO, Ab.kiO, e] using hB⟩
      obtain ⟨B', hB'⟩ := this
      exact (h2.ow j B' hB').2.lt g hg) hres
  | pcall fx args tys f as ks R ho hfx hx hc hr =>
    obtain ⟨M', h2, hle, hl, hra⟩ := SimW.toLs hx (fun A0 e => by cases e) rfl hs (vs := fun j => (args.map ac.eval).getD j undef) (args_at args)
    obtain ⟨e1, e2, e3⟩ := shares_c τ ks
    refine enter (run_lcall ho hfx hc.ent) (hc.run w M' (γ 0) (args.map ac.eval) h2.mw (fun A0 e => by cases e) (by rw [hl]; simp) hra) fun e w' ha => ?_
    obtain ⟨v, M'', r, xs, hR, he, haf, hres⟩ := ha
    refine ⟨v, he, ?_⟩
    obtain ⟨s, al, hre, hE⟩ := hr r xs hR
    refine ⟨_, hE, ?_⟩
    have h3 := h2.past haf
    exact res_adopt (wb := w) h3 hd (hre.us e2) h2.hsz (fun j B hB g hg => (h2.ow j B hB).2.lt g hg) hres

theorem WEff.sound (hT : TOK P T) {R : List Nat} {o : Oper} {e : Ef} (hd : ∀ d, o.dst = some d → d < n) (h : WEff P T R o τ e) (hs : SimW X w0 M0 n τ ac w M γ) (Q : Exit → Act → World → Prop) :
    o.wp P ac w (fun ac' w' => Sim X w0 M0 n (τ.eff o.dst e) ac' w') Q := by
  cases h with
  | storeA t x y k i A z ks ty ho hm hx hA hy hsh hi hz hw =>
    obtain ⟨M', h1, hle, hr⟩ := hs.toD hy (hs.val y)
    obtain ⟨e1, e2, e3⟩ := shares_c τ ks
    have h2 := hs.val x; rw [hx] at h2
    obtain ⟨_, hlive⟩ := h2
    obtain ⟨_, g, hg, hv⟩ := hlive A hA
    obtain ⟨hcs, hone, hel⟩ := hr.cells_one
    have hul : (ac.eval y).cells.toList.length = A.sz := by rw [Array.length_toList, hcs, hz]
    obtain ⟨w', hst, hsim⟩ := h1.storeRow (P := P) (k := k) (A := A) (by rw [e1]; exact hA) hsh hg (o := i * A.sz) (us := (ac.eval y).cells.toList) (by rw [hul]; exact mul_succ_le hi) hone (xs := A.xs.set i z) (by simp)
      (fun cs hc => cellsOK_set hc hi hz hul hel)
    have hsr := run_sizeOf (hT _ hm) (P := P) w
    simp only at hsr
    have hrun : (execOp ac.eval o).run P w = .ok .skip w' := by
      simp only [execOp, ho, hv, Instr.storeAt, Instr.sureAddr, storeVar, Sem.run_bind, Sem.run_pure, Result.andThen_ok, hsr]
      rw [if_neg (by simp only [ne_eq, Decidable.not_not]; rw [hcs, hz, hw]), hst]
      rfl
    exact wp_skip' hrun (.of (hsim.put hd rfl))
  | storeF t x y k i f A fs z ks ty ho hm hx hA hy hsh hi hf hz hw =>
    obtain ⟨M', h1, hle, hr⟩ := hs.toD hy (hs.val y)
    obtain ⟨e1, e2, e3⟩ := shares_c τ ks
    have h2 := hs.val x; rw [hx] at h2
    obtain ⟨_, hlive⟩ := h2
    obtain ⟨_, g, hg, hv⟩ := hlive A hA
    obtain ⟨hcs, hone, hel⟩ := hr.cells_one
    have hw1 : z.width = 1 := width_one hz
    have hvc : (ac.eval y).cells = #[ac.eval y] := by
      have := hr.oneCell hz
      cases hh : ac.eval y <;> rw [hh] at this <;> first | rfl | cases this
    have hsz : fs.length = A.sz := by
      obtain ⟨cs, hc, _⟩ := h1.cells (k := k) (A := A) (by rw [e1]; exact hA) hg
      exact (hc.2 i _ hi).1
    have hil := (List.getElem?_eq_some_iff.1 hi).1
    have hms := mul_succ_le (sz := A.sz) hil
    obtain ⟨w', hst, hsim⟩ := h1.storeRow (P := P) (k := k) (A := A) (by rw [e1]; exact hA) hsh hg (o := i * A.sz + f) (us := [ac.eval y]) (by simp; omega) (by simpa using hr.oneCell hz) (xs := A.xs.set i (.agg (fs.set f z))) (by simp)
      (fun cs hc => cellsOK_setF hc hi hf hz hr)
    have hsr := run_sizeOf (hT _ hm) (P := P) w
    simp only at hsr
    have hrun : (execOp ac.eval o).run P w = .ok .skip w' := by
      simp only [execOp, ho, hv, Instr.storeAt, Instr.sureAddr, storeVar, Sem.run_bind, Sem.run_pure, Result.andThen_ok, hsr, hvc]
      rw [if_neg (by simp [hw]), hst]
      rfl
    exact wp_skip' hrun (.of (hsim.put hd rfl))
  | appendA t x y e ety k m d A ys ho hdst hu hds hm hE hx hA hsh he hsz hy hw hl =>
    subst he
    obtain ⟨hus, ⟨⟨cs, hown, hcs, hM⟩, hpos, hnew⟩⟩ := hs.ow k A hA
    have h1 := hs.val x; rw [hx] at h1
    obtain ⟨hmA, hv⟩ := h1.2 A hA
    obtain ⟨a, cap, news, hvy, hc, hat⟩ := cont_at hs hy (hs.val y) hw
    rw [← hsz] at hown hcs hpos
    obtain ⟨v', w', hr, hown', hgr, hob⟩ := run_append_all (P := P) (T := T) hT hm hE hpos (ty := o.type) (own_prefix hown hmA) (cap := cap) hc rfl hat hl
    have hrun := run_append_op (P := P) ho hv hvy hr
    have hcut : (cutV (γ k) m).ownBlock = (γ k).ownBlock := by
      rcases ownBlock_live hs hA with ⟨hg, _⟩ | ⟨g, cap, hg, _⟩ <;> rw [hg] <;> rfl
    rw [hcut] at hgr hob
    have hlen : (A.xs.take m ++ ys).length = m + ys.length := by simp; omega
    have hsim := hs.app (k := k) (d := d) (A := A) (xs' := A.xs.take m ++ ys) hA hsh hu (hd d hdst) hds hgr (by rw [hlen, ← hsz]; exact hown') (by rw [← hsz]; exact cellsOK_append (cellsOK_take hcs hmA) hc)
      (fun g hg => by rcases hob with e | e
                      · exact .inl (e ▸ hg)
                      · rw [e] at hg; exact .inr (Option.some.inj hg).symm)
    refine wp_value hrun (.of (hsim.put hd ⟨by simp [Ab.al], fun A' hA' => ?_⟩))
    have e : A' = ⟨A.e, A.sz, A.xs.take m ++ ys⟩ := by simpa [Ab.al] using hA'.symm
    subst e
    refine ⟨Nat.le_of_eq hlen.symm, ?_⟩
    rcases own_form hown' with ⟨e, h0⟩ | ⟨g, cap, e, _, _⟩
    · rw [e, h0]; simp [upd, cutV]
    · rw [e]; simp [upd, cutV]
  | appendN t x y e ety d ys ho hdst hu hm hE hp hx hy hw hl =>
    have h1 := hs.val x; rw [hx] at h1
    obtain ⟨a, cap, news, hvy, hc, hat⟩ := cont_at hs hy (hs.val y) hw
    obtain ⟨v', w', hr, hown', hgr, hob⟩ := run_append_all (P := P) (T := T) hT hm hE hp (ty := o.type) (World.ownsRow_nil w 0 e ety.width) (cap := cap) hc rfl hat (by omega)
    have hrun := run_append_op (P := P) ho h1 hvy hr
    simp only [Nat.zero_add, List.nil_append] at hown'
    have hblk : ∀ j, j < w.heap.size → w'.heap[j]? = w.heap[j]? := fun j hj => hgr.block j hj (by simp [Value.ownBlock])
    have hbelow : Below w.heap.size w w' := ⟨hgr.os, hgr.tape, hgr.output, hgr.size, hblk⟩
    have hob' : ∀ g, v'.ownBlock = some g → g = w.heap.size := fun g hg => by
      rcases hob with e | e
      · rw [e] at hg; simp [Value.ownBlock] at hg
      · rw [e] at hg; exact (Option.some.inj hg).symm
    have hown2 : w'.ownsRow w.heap.size e ety.width v' ys.length news := by
      refine ⟨hown'.1, ?_⟩
      rcases hown'.2 with hl | ⟨g, cap, cur, hv, r1, r2⟩
      · exact .inl hl
      · exact .inr ⟨g, cap, cur, hv, Nat.le_of_eq (hob' g (by rw [hv]; rfl)).symm, r2⟩
    have hsim := hs.al (k := d) (A := ⟨e, ety.width, ys⟩) (M' := M) hu (hd d hdst) hbelow (Mem.le_refl M) (fun a u hau => by
      have h3 := hs.mw a u hau
      rw [hbelow.cell (block_lt_of_cell h3)]; exact h3) (fun _ _ hau => .inl hau) news hown2 hc hp (fun g hg off sp => by rw [hob' g hg]; exact no_mem_new hs (Nat.le_refl _) off sp)
    refine wp_value hrun (.of (hsim.put hd ⟨by simp [Ab.al], fun A' hA' => ?_⟩))
    have e : A' = ⟨e, ety.width, ys⟩ := by simpa [Ab.al] using hA'.symm
    subst e
    refine ⟨Nat.le_refl _, ?_⟩
    rcases own_form hown' with ⟨e, h0⟩ | ⟨g, cap, e, _, _⟩
    · rw [e, h0]; simp [upd, cutV]
    · rw [e]; simp [upd, cutV]
  | lcall fx args tys f as ks k A r xs s al ho hfx hL hx hk hA hsh hc hr =>
    have := DEff.sound (P := P) (T := T) (E := fun e => e = { s, sh := ks, al, up := some (k, ⟨A.e, A.sz, xs⟩) }) hd (.lcall fx args tys f as ks k A _ ho hfx hx hA hsh hc (fun r' xs' h => by obtain ⟨rfl, rfl⟩ := h; exact ⟨s, al, hr, rfl⟩)) hs Q
    exact Oper.wp_mono (fun ac' w' h => by obtain ⟨e, rfl, h⟩ := h; exact h) this
end
end Go.DL
