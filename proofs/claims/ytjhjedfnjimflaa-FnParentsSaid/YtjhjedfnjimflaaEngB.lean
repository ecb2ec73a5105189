/- Part of an evaluator of Go code on plain data, proved sound for the model: lemmas alone, for every program; each states its own conditions. -/
import Derived.Test.YtjhjedfnjimflaaEngA
namespace Go.DL
open Go.RowKit
section
variable {X : Env} {w0 : World} {M0 : Mem} {n : Nat} {τ : Ab} {ac : Act} {w : World} {M : Mem} {γ : Nat → Value}

/-! ### Sharing -/
def Ab.share (τ : Ab) (k : Nat) : Ab := { τ with sh := fun j => if j = k then true else τ.sh j }

theorem Goes.share (τ : Ab) (γ : Nat → Value) (k : Nat) : Goes τ (τ.share k) γ γ := fun _ hj => ⟨hj, fun A hA => ⟨A, hA, rfl, Nat.le_refl _, rfl⟩⟩

theorem cellsOK_take {M : Mem} {sz : Nat} {xs : List D} {cs : List Value} (h : CellsOK M sz xs cs) {m : Nat} (hm : m ≤ xs.length) : CellsOK M sz (xs.take m) (cs.take (m * sz)) := by
  obtain ⟨h1, h2⟩ := h
  have hle : m * sz ≤ xs.length * sz := Nat.mul_le_mul_right _ hm
  refine ⟨by rw [List.length_take, List.length_take, h1, Nat.min_eq_left hle, Nat.min_eq_left hm], fun j x hx => ?_⟩
  rw [List.getElem?_take] at hx
  split at hx
  · rename_i hj
    obtain ⟨hw, he1, he2⟩ := h2 j x hx
    have hlt : j * sz + sz ≤ m * sz := by
      have := Nat.mul_le_mul_right sz (show j + 1 ≤ m from hj)
      rw [Nat.add_mul, Nat.one_mul] at this
      exact this
    refine ⟨hw, fun hc => ?_, fun fs hfs i f hi => ?_⟩
    · obtain ⟨v, hv1, hv2⟩ := he1 hc
      refine ⟨v, ?_, hv2⟩
      rw [List.getElem?_take, if_pos]
      · exact hv1
      · have : x.width = 1 := by cases x <;> first | rfl | cases hc
        omega
    · obtain ⟨h0, v, hv1, hv2⟩ := he2 fs hfs i f hi
      refine ⟨h0, v, ?_, hv2⟩
      rw [List.getElem?_take, if_pos]
      · exact hv1
      · have hwf : fs.length = sz := by rw [hfs] at hw; exact hw
        have := (List.getElem?_eq_some_iff.1 hi).1
        omega
  · cases hx

theorem rep_of_cells {M : Mem} {sz : Nat} {xs : List D} {cs : List Value} (h : CellsOK M sz xs cs) {ad : Addr} (hsp : ad.spot = none) {cap : Nat} (hcap : xs.length ≤ cap)
    (hm : ∀ j u, cs[j]? = some u → M (ad.add j) = some u) : Rep M (.sl xs) (.slice (some ad) xs.length cap) := by
  obtain ⟨h1, h2⟩ := h
  refine .sl xs ad cap sz (fun j => cs.getD j undef) hcap hsp (fun x hx => ?_) (fun j hj => ?_) (fun j x hx hc => ?_) (fun j fs hx f hf => ?_) (fun j fs hx i f hi => ?_)
  · obtain ⟨j, hj⟩ := List.getElem?_of_mem hx
    exact (h2 j x hj).1
  · have : cs[j]? = some (cs[j]'(by omega)) := List.getElem?_eq_getElem (by omega)
    rw [hm j _ this]
    simp [this]
  · obtain ⟨v, hv1, hv2⟩ := (h2 j x hx).2.1 hc
    simp only [List.getD_eq_getElem?_getD, hv1]
    exact hv2
  · obtain ⟨i, hi⟩ := List.getElem?_of_mem hf
    exact ((h2 j _ hx).2.2 fs rfl i f hi).1
  · obtain ⟨_, v, hv1, hv2⟩ := (h2 j _ hx).2.2 fs rfl i f hi
    simp only [List.getD_eq_getElem?_getD, hv1]
    exact hv2

theorem addr_add0 (g j : Nat) : (⟨g, 0, none⟩ : Addr).add j = ⟨g, j, none⟩ := by unfold Addr.add; split <;> simp_all

theorem own_form {w : World} {b e sz n : Nat} {v : Value} {cs : List Value} (h : w.ownsRow b e sz v n cs) : (v = .slice none 0 0 ∧ n = 0) ∨ ∃ g cap, v = .slice (some ⟨g, 0, none⟩) n cap ∧ n ≤ cap ∧ cap ≤ maxLen := by
  rcases h.2 with hl | ⟨g, cap, cur, hv, _, _, h1, h2, _⟩
  · exact .inl hl
  · exact .inr ⟨g, cap, hv, h1, h2⟩

/-- An own array handed on as immutable data. -/
theorem SimW.share (h : SimW X w0 M0 n τ ac w M γ) {k m : Nat} {A : Arr} (hk : τ.c k = some A) (hm : m ≤ A.xs.length) :
    ∃ M', SimW X w0 M0 n (τ.share k) ac w M' γ ∧ Mem.le M M' ∧ Rep M' (.sl (A.xs.take m)) (cutV (γ k) m) := by
  obtain ⟨hus, ⟨⟨cs, hown, hcs, hM⟩, hpos, hnew⟩⟩ := h.ow k A hk
  rcases own_form hown with ⟨hv, hn⟩ | ⟨g, cap, hv, hnc, hcm⟩
  · have hm0 : m = 0 := by omega
    refine ⟨M, ⟨h.dfr, h.fsz, h.os, h.tape, h.output, h.hsz, h.frame, h.m0, h.mw, h.mn, fun t => (h.slots t).goes (Mem.le_refl M) (Goes.share τ γ k), fun j A' hA' => ?_, h.di, h.pin⟩, Mem.le_refl M, ?_⟩
    · obtain ⟨h1, h2⟩ := h.ow j A' hA'
      exact ⟨h1, h2.keep (Mem.le_refl M) (fun _ _ => rfl) (fun _ _ _ _ _ hu => hu) (by intro e; simp [Ab.share, e])⟩
    · subst hm0
      rw [hv]
      exact .nil none 0
  · have hob : (γ k).ownBlock = some g := by rw [hv]; rfl
    have hcell := hown.cells hob
    let M' : Mem := fun a => if a.block = g ∧ a.spot = none ∧ a.off < cs.length then cs[a.off]? else M a
    have hle : Mem.le M M' := by
      intro a v hav
      show (if _ then _ else _) = _
      by_cases hc : a.block = g ∧ a.spot = none ∧ a.off < cs.length
      · rw [if_pos hc]
        obtain ⟨e1, e2, e3⟩ := hc
        obtain ⟨ab, ao, asp⟩ := a
        simp only at e1 e2 e3
        subst e1; subst e2
        have h1 := hcell ao _ (List.getElem?_eq_getElem e3)
        rw [addr_add0] at h1
        rw [h.mw _ _ hav] at h1
        rw [List.getElem?_eq_getElem e3]
        exact h1.symm
      · rw [if_neg hc]; exact hav
    have hin : ∀ j u, cs[j]? = some u → M' ((⟨g, 0, none⟩ : Addr).add j) = some u := by
      intro j u hu
      rw [addr_add0]
      have hj := (List.getElem?_eq_some_iff.1 hu).1
      show (if _ then _ else _) = _
      rw [if_pos ⟨rfl, rfl, hj⟩]
      exact hu
    refine ⟨M', ⟨h.dfr, h.fsz, h.os, h.tape, h.output, h.hsz, h.frame, Mem.le_trans h.m0 hle, fun a v hav => ?_, fun a v hav => ?_, fun t => (h.slots t).goes hle (Goes.share τ γ k), fun j A' hA' => ?_, h.di, h.pin⟩, hle, ?_⟩
    · change (if _ then _ else _) = _ at hav
      by_cases hc : a.block = g ∧ a.spot = none ∧ a.off < cs.length
      · rw [if_pos hc] at hav
        obtain ⟨e1, e2, e3⟩ := hc
        obtain ⟨ab, ao, asp⟩ := a
        simp only at e1 e2 e3
        subst e1; subst e2
        have h1 := hcell ao _ hav
        rwa [addr_add0] at h1
      · rw [if_neg hc] at hav
        exact h.mw _ _ hav
    · change (if _ then _ else _) = _ at hav
      by_cases hc : a.block = g ∧ a.spot = none ∧ a.off < cs.length
      · rw [hc.1]
        exact .inr (hnew g hob)
      · rw [if_neg hc] at hav
        exact h.mn _ _ hav
    · obtain ⟨h1, h2⟩ := h.ow j A' hA'
      refine ⟨h1, ?_⟩
      by_cases hj : j = k
      · subst hj
        have e : A' = A := by
          have : τ.c j = some A' := hA'
          rw [hk] at this
          exact (Option.some.inj this).symm
        subst e
        refine ⟨⟨cs, hown, hcs.mono hle, fun g' hg' off sp u hu => ?_⟩, hpos, hnew⟩
        rw [hob] at hg'
        have e := Option.some.inj hg'
        subst e
        change (if _ then _ else _) = _ at hu
        by_cases hc : (⟨g, off, sp⟩ : Addr).block = g ∧ (⟨g, off, sp⟩ : Addr).spot = none ∧ (⟨g, off, sp⟩ : Addr).off < cs.length
        · exact ⟨by simp [Ab.share], hc.2.2, hc.2.1⟩
        · rw [if_neg hc] at hu
          obtain ⟨_, b1, b2⟩ := hM g hob off sp u hu
          exact absurd ⟨rfl, b2, b1⟩ hc
      · refine h2.keep hle (fun _ _ => rfl) (fun g' hg' off sp u hu => ?_) (by intro e; simp [Ab.share, e])
        have hne : g' ≠ g := fun e => hj (h.di j k A' A g hA' hk (e ▸ hg') hob)
        change (if _ then _ else _) = _ at hu
        rw [if_neg (fun hc => hne hc.1)] at hu
        exact hu
    · rw [hv]
      show Rep M' _ (.slice (some ⟨g, 0, none⟩) m cap)
      have h3 := rep_of_cells (M := M') (cellsOK_take (hcs.mono hle) hm) (ad := ⟨g, 0, none⟩) rfl (cap := cap) (by simp; omega) (fun j u hu => by
        rw [List.getElem?_take] at hu
        split at hu
        · exact hin j u hu
        · cases hu)
      have e : (A.xs.take m).length = m := by simp; omega
      rw [e] at h3
      exact h3

/-! ### Reading and writing an own array -/
theorem SimW.cells (h : SimW X w0 M0 n τ ac w M γ) {k : Nat} {A : Arr} (hk : τ.c k = some A) {g : Nat} (hg : (γ k).ownBlock = some g) :
    ∃ cs : List Value, CellsOK M A.sz A.xs cs ∧ (∀ j u, cs[j]? = some u → w.cell? ⟨g, j, none⟩ = some u ∧ w.frozen? ⟨g, j, none⟩ = false) := by
  obtain ⟨hus, ⟨⟨cs, hown, hcs, hM⟩, hpos, hnew⟩⟩ := h.ow k A hk
  refine ⟨cs, hcs, fun j u hu => ?_⟩
  have h1 := hown.cells hg j u hu
  rw [addr_add0] at h1
  refine ⟨h1, ?_⟩
  rcases hown.2 with ⟨hv, _⟩ | ⟨g', cap, cur, hv, _, hh, _⟩
  · rw [hv] at hg; cases hg
  · rw [hv] at hg
    have e : g' = g := Option.some.inj hg
    subst e
    exact frozen_of_row w g' j cur A.e hh

def Ab.up (τ : Ab) (k : Nat) (A : Arr) : Ab := { τ with c := fun j => if j = k then some A else τ.c j }

theorem Goes.up {τ : Ab} (γ : Nat → Value) {k : Nat} {A : Arr} {xs : List D} (hk : τ.c k = some A) (hl : xs.length = A.xs.length) : Goes τ (τ.up k ⟨A.e, A.sz, xs⟩) γ γ := by
  intro j hj
  refine ⟨hj, fun A' hA' => ?_⟩
  by_cases e : j = k
  · subst e
    have h1 : A' = ⟨A.e, A.sz, xs⟩ := by simpa [Ab.up] using hA'.symm
    subst h1
    exact ⟨A, hk, rfl, by simp [hl], rfl⟩
  · exact ⟨A', by simpa [Ab.up, e] using hA', rfl, Nat.le_refl _, rfl⟩

/-- The cells of an own array written. -/
theorem SimW.setRow (h : SimW X w0 M0 n τ ac w M γ) {k : Nat} {A : Arr} (hk : τ.c k = some A) (hsh : τ.sh k = false) {g : Nat} (hg : (γ k).ownBlock = some g)
    {w' : World} (hos : w'.os = w.os) (htp : w'.tape = w.tape) (hout : w'.output = w.output) (hsize : w'.heap.size = w.heap.size) (hoth : ∀ j, j ≠ g → w'.heap[j]? = w.heap[j]?)
    {xs : List D} (hl : xs.length = A.xs.length) {cs' : List Value} (hown' : w'.ownsRow 0 A.e A.sz (γ k) xs.length cs') (hcs : CellsOK M A.sz xs cs') :
    SimW X w0 M0 n (τ.up k ⟨A.e, A.sz, xs⟩) ac w' M γ := by
  obtain ⟨hus, ⟨⟨cs, hown, hc, hM⟩, hpos, hnew⟩⟩ := h.ow k A hk
  have hgn : ∀ off sp, M ⟨g, off, sp⟩ = none := fun off sp => by
    cases hm : M ⟨g, off, sp⟩ with
    | none => rfl
    | some u' => have := (hM g hg off sp u' hm).1; rw [hsh] at this; cases this
  refine ⟨h.dfr, h.fsz, hos.trans h.os, htp.trans h.tape, hout.trans h.output, by rw [hsize]; exact h.hsz, fun j hj hX => ?_, h.m0, fun a v hav => ?_, h.mn, fun t => (h.slots t).goes (Mem.le_refl M) (Goes.up γ hk hl), fun j A' hA' => ?_, fun j j' A1 A2 g' h1 h2 g1 g2 => ?_, fun j v hj => ?_⟩
  · have hne : j ≠ g := by
      rintro rfl
      rcases hnew j hg with h1 | h1
      · omega
      · exact hX h1
    rw [hoth j hne]
    exact h.frame j hj hX
  · have hne : a.block ≠ g := by
      rintro e
      have := hgn a.off a.spot
      rw [← e] at this
      rw [show (⟨a.block, a.off, a.spot⟩ : Addr) = a from rfl, hav] at this
      cases this
    rw [World.cell?_of_block (hoth a.block hne)]
    exact h.mw a v hav
  · by_cases e : j = k
    · subst e
      have e1 : A' = ⟨A.e, A.sz, xs⟩ := by simpa [Ab.up] using hA'.symm
      subst e1
      refine ⟨hus, ⟨⟨cs', hown', hcs, fun g' hg' off sp v hv => ?_⟩, hpos, hnew⟩⟩
      rw [hg] at hg'
      have e := Option.some.inj hg'
      subst e
      rw [hgn off sp] at hv
      cases hv
    · have hA : τ.c j = some A' := by simpa [Ab.up, e] using hA'
      obtain ⟨h1, h2⟩ := h.ow j A' hA
      exact ⟨h1, h2.keep (Mem.le_refl M) (fun g' hg' => hoth g' (fun e' => e (h.di j k A' A g hA hk (e' ▸ hg') hg))) (fun _ _ _ _ _ hu => hu) id⟩
  · have f1 : ∃ B1, τ.c j = some B1 := by
      by_cases e : j = k
      · exact ⟨A, e ▸ hk⟩
      · exact ⟨A1, by simpa [Ab.up, e] using h1⟩
    have f2 : ∃ B2, τ.c j' = some B2 := by
      by_cases e : j' = k
      · exact ⟨A, e ▸ hk⟩
      · exact ⟨A2, by simpa [Ab.up, e] using h2⟩
    obtain ⟨B1, hB1⟩ := f1
    obtain ⟨B2, hB2⟩ := f2
    exact h.di j j' B1 B2 g' hB1 hB2 g1 g2
  · obtain ⟨p1, p2, p3⟩ := h.pin j v hj
    refine ⟨p1, p2, fun A' hA' => ?_⟩
    by_cases e : j = k
    · exact p3 A (e ▸ hk)
    · exact p3 A' (by simpa [Ab.up, e] using hA')

/-- A run of cells of an own array written (a cell, a whole element). -/
theorem SimW.storeRow (h : SimW X w0 M0 n τ ac w M γ) {P : Program} {k : Nat} {A : Arr} (hk : τ.c k = some A) (hsh : τ.sh k = false) {g : Nat} (hg : (γ k).ownBlock = some g)
    {o : Nat} {us : List Value} (ho : o + us.length ≤ A.xs.length * A.sz) (hu : ∀ u ∈ us, u.oneCell' = true) {xs : List D} (hl : xs.length = A.xs.length)
    (hcs : ∀ cs, CellsOK M A.sz A.xs cs → CellsOK M A.sz xs (cs.take o ++ us ++ cs.drop (o + us.length))) :
    ∃ w', (storeCells ⟨g, o, none⟩ us).run P w = .ok () w' ∧ SimW X w0 M0 n (τ.up k ⟨A.e, A.sz, xs⟩) ac w' M γ := by
  obtain ⟨hus, ⟨⟨cs, hown, hc, hM⟩, hpos, hnew⟩⟩ := h.ow k A hk
  rcases hown.2 with ⟨hv, _⟩ | ⟨g', cap, cur, hv, r1, r2, r3, r4, r5, r6⟩
  · rw [hv] at hg; cases hg
  · have e : g' = g := by rw [hv] at hg; exact Option.some.inj hg
    subst e
    have hle : A.xs.length * A.sz ≤ cap * A.sz := Nat.mul_le_mul_right _ r3
    have hst := run_storeCells_at P g' o A.e us 0 cur w r2 (by omega) hu
    simp only [Nat.add_zero] at hst
    refine ⟨_, hst, h.setRow (w' := w.setRow g' (cur.toList.take o ++ us ++ cur.toList.drop (o + us.length)).toArray) hk hsh hg rfl rfl rfl (by simp) (fun j hj => setRow_other w g' j _ hj) hl (cs' := cs.take o ++ us ++ cs.drop (o + us.length)) ⟨?_, ?_⟩ (hcs cs hc)⟩
    · rw [hl]
      have := hown.1
      simp only [List.length_append, List.length_take, List.length_drop]
      omega
    · rw [hl]
      refine .inr ⟨g', cap, _, hv, r1, setRow_heap w g' cur _ A.e _ r2, r3, r4, ?_, ?_⟩
      · simp only [List.size_toArray, List.length_append, List.length_take, List.length_drop, Array.length_toList]
        omega
      · have hcl := hown.1
        rw [← r6]
        have h1 : (cur.toList.take o).length = o := by simp; omega
        apply List.ext_getElem?
        intro i
        simp only [List.getElem?_take, List.getElem?_append, List.length_append, h1, List.getElem?_drop, List.length_take, Array.length_toList]
        have hmin : min o (min (A.xs.length * A.sz) cur.size) = o := by omega
        simp only [hmin]
        by_cases c1 : i < A.xs.length * A.sz
        · rw [if_pos c1]
          by_cases c2 : i < o + us.length
          · rw [if_pos c2, if_pos c2]
            by_cases c3 : i < o
            · simp only [if_pos c3, if_pos c1]
            · rw [if_neg c3, if_neg c3]
          · rw [if_neg c2, if_neg c2, if_pos (by omega)]
        · rw [if_neg c1]
          rw [if_neg (by omega), if_neg (by omega)]

/-! ### Append -/
def Ab.kill (τ : Ab) (k : Nat) : Ab := { τ with c := fun j => if j = k then none else τ.c j }

theorem own_prefix {w : World} {b e sz n : Nat} {v : Value} {cs : List Value} (h : w.ownsRow b e sz v n cs) {m : Nat} (hm : m ≤ n) : w.ownsRow b e sz (cutV v m) m (cs.take (m * sz)) := by
  have hle : m * sz ≤ n * sz := Nat.mul_le_mul_right _ hm
  refine ⟨by rw [List.length_take, h.1, Nat.min_eq_left hle], ?_⟩
  rcases h.2 with ⟨hv, hn⟩ | ⟨g, cap, cur, hv, r1, r2, r3, r4, r5, r6⟩
  · left; rw [hv]; exact ⟨by simp [cutV]; omega, by omega⟩
  · right
    refine ⟨g, cap, cur, by rw [hv]; rfl, r1, r2, by omega, r4, r5, ?_⟩
    rw [← r6, List.take_take, Nat.min_eq_left hle]

theorem cellsOK_append {M : Mem} {sz : Nat} {xs ys : List D} {cs ds : List Value} (h : CellsOK M sz xs cs) (k : CellsOK M sz ys ds) : CellsOK M sz (xs ++ ys) (cs ++ ds) := by
  obtain ⟨h1, h2⟩ := h
  obtain ⟨k1, k2⟩ := k
  refine ⟨by simp [h1, k1, Nat.add_mul], fun j x hx => ?_⟩
  by_cases hj : j < xs.length
  · rw [List.getElem?_append_left hj] at hx
    obtain ⟨hw, e1, e2⟩ := h2 j x hx
    refine ⟨hw, fun hc => ?_, fun fs hfs i f hi => ?_⟩
    · obtain ⟨v, a, b⟩ := e1 hc
      exact ⟨v, by rw [List.getElem?_append_left (List.getElem?_eq_some_iff.1 a).1]; exact a, b⟩
    · obtain ⟨c, v, a, b⟩ := e2 fs hfs i f hi
      exact ⟨c, v, by rw [List.getElem?_append_left (List.getElem?_eq_some_iff.1 a).1]; exact a, b⟩
  · rw [List.getElem?_append_right (by omega)] at hx
    obtain ⟨hw, e1, e2⟩ := k2 _ x hx
    have ej : j * sz = cs.length + (j - xs.length) * sz := by rw [h1, ← Nat.add_mul]; congr 1; omega
    refine ⟨hw, fun hc => ?_, fun fs hfs i f hi => ?_⟩
    · obtain ⟨v, a, b⟩ := e1 hc
      refine ⟨v, ?_, b⟩
      rw [ej, List.getElem?_append_right (by omega), Nat.add_sub_cancel_left]
      exact a
    · obtain ⟨c, v, a, b⟩ := e2 fs hfs i f hi
      refine ⟨c, v, ?_, b⟩
      rw [ej, Nat.add_assoc, List.getElem?_append_right (by omega), Nat.add_sub_cancel_left]
      exact a

theorem Goes.app {τ : Ab} (γ : Nat → Value) {k d : Nat} {A : Arr} {v : Value} (hd : τ.us d = false) : Goes τ ((τ.kill k).al d A) γ (upd γ d v) := by
  intro j hj
  have hne : j ≠ d := fun e => by rw [e, hd] at hj; cases hj
  refine ⟨by simp [Ab.al, hne, hj, Ab.kill], fun A' hA' => ?_⟩
  by_cases e : j = k
  · subst e; simp [Ab.al, hne, Ab.kill] at hA'
  · exact ⟨A', by simpa [Ab.al, hne, Ab.kill, e] using hA', rfl, Nat.le_refl _, by simp [upd, hne]⟩

/-- An append onto an own array has happened. -/
theorem SimW.app (h : SimW X w0 M0 n τ ac w M γ) {k d : Nat} {A : Arr} (hk : τ.c k = some A) (hsh : τ.sh k = false) (hd : τ.us d = false) (hdn : d < n) (hdsh : τ.sh d = false)
    {w' : World} {v' : Value} {xs' : List D} {cs' : List Value} (hg : w.grownBy w' (γ k).ownBlock) (hown : w'.ownsRow 0 A.e A.sz v' xs'.length cs') (hcs : CellsOK M A.sz xs' cs')
    (hv' : ∀ g, v'.ownBlock = some g → (γ k).ownBlock = some g ∨ g = w.heap.size) :
    SimW X w0 M0 n ((τ.kill k).al d ⟨A.e, A.sz, xs'⟩) ac w' M (upd γ d v') := by
  obtain ⟨hus, ⟨⟨cs, hown0, hc0, hM⟩, hpos, hnew⟩⟩ := h.ow k A hk
  have hMg : ∀ g, (γ k).ownBlock = some g → ∀ off sp, M ⟨g, off, sp⟩ = none := fun g hgk off sp => by
    cases hm : M ⟨g, off, sp⟩ with
    | none => rfl
    | some u' => have := (hM g hgk off sp u' hm).1; rw [hsh] at this; cases this
  have hcell : ∀ a u, M a = some u → w'.cell? a = some u := fun a u hu => by
    have h1 := h.mw a u hu
    refine hg.cell h1 (fun e => ?_)
    have := hMg a.block e.symm a.off a.spot
    rw [show (⟨a.block, a.off, a.spot⟩ : Addr) = a from rfl, hu] at this
    cases this
  have hblk : ∀ j A', τ.c j = some A' → j ≠ k → ∀ g, (γ j).ownBlock = some g → w'.heap[g]? = w.heap[g]? := fun j A' hA' hj g hgj =>
    hg.block g ((h.ow j A' hA').2.lt g hgj) (fun e => hj (h.di j k A' A g hA' hk hgj e.symm))
  refine ⟨h.dfr, h.fsz, hg.os.trans h.os, hg.tape.trans h.tape, hg.output.trans h.output, Nat.le_trans h.hsz hg.size, fun j hj hX => ?_, h.m0, hcell, h.mn,
    fun t => (h.slots t).goes (Mem.le_refl M) (Goes.app γ hd), fun j A' hA' => ?_, fun j j' A1 A2 g h1 h2 g1 g2 => ?_, fun j v hj => ?_⟩
  · rw [hg.block j (Nat.lt_of_lt_of_le hj h.hsz) (fun e => ?_)]
    · exact h.frame j hj hX
    · rcases hnew j e.symm with h1 | h1
      · omega
      · exact hX h1
  · by_cases e : j = d
    · subst e
      have e1 : A' = ⟨A.e, A.sz, xs'⟩ := by simpa [Ab.al] using hA'.symm
      subst e1
      refine ⟨by simp [Ab.al], ⟨⟨cs', by simpa [upd] using hown, hcs, fun g hgk off sp u hu => ?_⟩, hpos, fun g hgk => ?_⟩⟩
      · simp only [upd, if_true] at hgk
        rcases hv' g hgk with h1 | h1
        · rw [hMg g h1 off sp] at hu; cases hu
        · subst h1
          rw [no_mem_new h (Nat.le_refl _) off sp] at hu; cases hu
      · simp only [upd, if_true] at hgk
        rcases hv' g hgk with h1 | h1
        · exact hnew g h1
        · exact .inl (h1 ▸ h.hsz)
    · have hjk : j ≠ k := fun e' => by subst e'; simp [Ab.al, e, Ab.kill] at hA'
      have hA : τ.c j = some A' := by simpa [Ab.al, e, Ab.kill, hjk] using hA'
      obtain ⟨h1, h2⟩ := h.ow j A' hA
      refine ⟨by simp [Ab.al, e, Ab.kill, h1], ?_⟩
      have e3 : upd γ d v' j = γ j := by simp [upd, e]
      rw [e3]
      exact h2.keep (Mem.le_refl M) (hblk j A' hA hjk) (fun _ _ _ _ _ hu => hu) id
  · have live : ∀ j A', ((τ.kill k).al d ⟨A.e, A.sz, xs'⟩).c j = some A' → j ≠ d → j ≠ k ∧ τ.c j = some A' := fun j A' hA' e => by
      have hjk : j ≠ k := fun e' => by subst e'; simp [Ab.al, e, Ab.kill] at hA'
      exact ⟨hjk, by simpa [Ab.al, e, Ab.kill, hjk] using hA'⟩
    have cross : ∀ j A' g, τ.c j = some A' → j ≠ k → (γ j).ownBlock = some g → v'.ownBlock = some g → False := fun j A' g hA' hj hgj hgv => by
      rcases hv' g hgv with h3 | h3
      · exact hj (h.di j k A' A g hA' hk hgj h3)
      · have := (h.ow j A' hA').2.lt g hgj; omega
    by_cases e1 : j = d
    · by_cases e2 : j' = d
      · rw [e1, e2]
      · exfalso
        obtain ⟨n2, c2⟩ := live j' A2 h2 e2
        subst e1
        simp only [upd, if_true] at g1
        simp only [upd, e2, if_false] at g2
        exact cross j' A2 g c2 n2 g2 g1
    · obtain ⟨n1, c1⟩ := live j A1 h1 e1
      by_cases e2 : j' = d
      · exfalso
        subst e2
        simp only [upd, if_true] at g2
        simp only [upd, e1, if_false] at g1
        exact cross j A1 g c1 n1 g1 g2
      · obtain ⟨n2, c2⟩ := live j' A2 h2 e2
        simp only [upd, e1, e2, if_false] at g1 g2
        exact h.di j j' A1 A2 g c1 c2 g1 g2
  · obtain ⟨p1, p2, p3⟩ := h.pin j v hj
    have hne : j ≠ d := by omega
    refine ⟨p1, p2, fun A' hA' => ?_⟩
    have e3 : upd γ d v' j = γ j := by simp [upd, hne]
    rw [e3]
    have hjk : j ≠ k := fun e' => by subst e'; simp [Ab.al, hne, Ab.kill] at hA'
    exact p3 A' (by simpa [Ab.al, hne, Ab.kill, hjk] using hA')

/-! ### A call -/
theorem SimW.call (h : SimW X w0 M0 n τ ac w M γ) {w' : World} {M' : Mem} (hb : Below w.heap.size w w') (hle : Mem.le M M') (hmw : ∀ a v, M' a = some v → w'.cell? a = some v)
    (hmn : ∀ a v, M' a = some v → M a = some v ∨ w.heap.size ≤ a.block) : SimW X w0 M0 n τ ac w' M' γ := by
  refine ⟨h.dfr, h.fsz, hb.os.trans h.os, hb.tape.trans h.tape, hb.output.trans h.output, Nat.le_trans h.hsz hb.size,
    fun j hj hX => (hb.block j (Nat.lt_of_lt_of_le hj h.hsz)).trans (h.frame j hj hX), Mem.le_trans h.m0 hle, hmw, fun a v hav => ?_,
    fun t => (h.slots t).goes hle (Goes.refl τ γ), fun j A' hA' => ?_, h.di, h.pin⟩
  · rcases hmn a v hav with h1 | h1
    · exact h.mn a v h1
    · exact .inr (.inl (Nat.le_trans h.hsz h1))
  · obtain ⟨h1, h2⟩ := h.ow j A' hA'
    refine ⟨h1, h2.keep hle (fun g hg => hb.block g (h2.lt g hg)) (fun g hg off sp u hu => ?_) id⟩
    rcases hmn _ u hu with h3 | h3
    · exact h3
    · have := h2.lt g hg
      simp only at h3
      omega
end
end Go.DL
