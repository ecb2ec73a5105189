/- Parts of an evaluator of Go code on plain data, proved sound for the model: lemmas alone, for every program; each states its own conditions. -/
import Derived.Test.YthfagmoaoihhpaaEngL
namespace Go.DL
open Go.RowKit

/-! ### Trees read as data -/
mutual
def erase : D → D
  | .own _ _ xs => .sl (eraseL xs)
  | .agg fs => .agg (eraseL fs)
  | .sc v => .sc v
  | .sl xs => .sl xs
  | .ref k m => .ref k m
  | .jk => .jk
def eraseL : List D → List D
  | [] => []
  | x :: r => erase x :: eraseL r
end
theorem eraseL_map : ∀ xs : List D, eraseL xs = xs.map erase
  | [] => by simp [eraseL]
  | x :: r => by simp [eraseL, eraseL_map r]
theorem erase_width (x : D) : (erase x).width = x.width := by cases x <;> simp [erase, D.width, eraseL_map]
theorem erase_fl (x : D) : (erase x).fl = x.fl.map erase := by cases x <;> simp [erase, D.fl, eraseL_map]
theorem fl_eraseL (xs : List D) : fl (eraseL xs) = (fl xs).map erase := by
  rw [eraseL_map]
  induction xs with
  | nil => rfl
  | cons x r ih => rw [List.map_cons, fl_cons, fl_cons, erase_fl, ih, List.map_append]
theorem erase_cell (x : D) : (erase x).isCell = x.isCell := by cases x <;> simp [erase, D.isCell]

/-- Nothing in it refers to an array outside of it, and all of it is known. -/
inductive Clean : D → Prop
  | sc (v : Value) : Clean (.sc v)
  | sl (xs : List D) : Clean (.sl xs)
  | own (e : TypeId) (sz : Nat) (xs : List D) (h : ∀ d, d ∈ fl xs → Clean d) : Clean (.own e sz xs)
def CleanL (xs : List D) : Prop := ∀ d, d ∈ fl xs → Clean d
theorem Clean.noRef {d : D} (h : Clean d) : NoRef d := by
  induction h with
  | sc v => exact .sc v
  | sl xs => exact .sl xs
  | own e sz xs h ih => exact .own e sz xs ih
theorem CleanL.noRef {xs : List D} (h : CleanL xs) : NoRefL xs := fun d hd => (h d hd).noRef

section
variable {X : Env} {w0 : World} {M0 : Mem} {n : Nat} {τ : Ab} {ac : Act} {w : World} {M : Mem} {γ : Nat → Value} {P : Program} {T : Tys}

theorem row_rep {M' : Mem} {e sz n' : Nat} {v : Value} {xs : List D} {cs : List Value} (ho : w.ownsRow 0 e sz v n' cs) (hn : xs.length = n') (hc : CellsOK M' sz xs cs)
    (hcov : ∀ g, v.ownBlock = some g → ∀ off u, w.cell? ⟨g, off, none⟩ = some u → M' ⟨g, off, none⟩ = some u) : Rep M' (.sl xs) v := by
  rcases own_form ho with ⟨hv, h0⟩ | ⟨g, cap, hv, h1, _⟩
  · have : xs = [] := List.eq_nil_of_length_eq_zero (by omega)
    rw [hv, this]; exact .nil _ _
  · have hob : v.ownBlock = some g := by rw [hv]; rfl
    have := rep_of_cells hc (ad := ⟨g, 0, none⟩) rfl (cap := cap) (by omega) fun j u hu => by
      have h1 := ho.cells hob j u hu
      rw [addr_add0] at h1 ⊢
      exact hcov g hob j u h1
    rw [hv, ← hn]; exact this

theorem CellT.eraseRep {us : Nat → Bool} {d : D} {v : Value} {Φ : Nat → Prop} (h : CellT w M us γ d v Φ) {M' : Mem} (hM : Mem.le M M') : Clean d → (∀ g, Φ g → ∀ off u, w.cell? ⟨g, off, none⟩ = some u → M' ⟨g, off, none⟩ = some u) → Rep M' (erase d) v := by
  induction h with
  | pl d v Φ h hc =>
    intro _ _
    cases d with
    | sc u => exact h.mono hM
    | sl xs => exact h.mono hM
    | agg fs => cases hc
    | ref => cases h
    | own => cases h
    | jk => cases h
  | ref => intro h; cases h
  | jk => intro h; cases h
  | own e sz xs v Φ cs ψ ho hp hw hc hb hs hd ih =>
    intro hcl hcov
    cases hcl with
    | own _ _ _ hcl =>
    have hw' : ∀ x ∈ eraseL xs, x.width = sz := fun x hx => by
      rw [eraseL_map] at hx
      obtain ⟨y, hy, rfl⟩ := List.mem_map.1 hx
      rw [erase_width]; exact hw y hy
    have hl : (eraseL xs).length = xs.length := by rw [eraseL_map]; simp
    refine row_rep ho hl (cellsOK_fl hw' (by rw [hl]; exact ho.1) fun p d' u h1 h2 => ?_) fun g hg => hcov g (hb g hg).1
    rw [fl_eraseL, List.getElem?_map] at h1
    cases hd0 : (fl xs)[p]? with
    | none => simp [hd0] at h1
    | some d0 =>
      simp [hd0] at h1; subst h1
      have hm := List.mem_of_getElem? hd0
      refine ⟨ih p d0 u hd0 h2 (hcl d0 hm) fun g hg => hcov g (hs p g hg), ?_⟩
      rw [erase_cell]
      have hcl0 := hcl d0 hm
      cases hcl0 <;> rfl

/-- A cell of a struct that is held, read as data. -/
inductive ErC (τ : Ab) : D → D → Prop
  | sc (v : Value) : ErC τ (.sc v) (.sc v)
  | sl (xs : List D) : ErC τ (.sl xs) (.sl xs)
  | av (k m : Nat) (A : Arr) (h : τ.c k = some A) (hm : m = A.xs.length) : ErC τ (.ref k m) (.sl A.xs)
  | fv (k m : Nat) (B : Arr) (h : τ.f k = some B) (hm : m = B.xs.length) (hn : CleanL B.xs) : ErC τ (.ref k m) (.sl (eraseL B.xs))
/-- What is held, read as data. -/
inductive ErS (τ : Ab) : S → D → Prop
  | d (x : D) : ErS τ (.d x) x
  | nil : ErS τ .nil (.sl [])
  | av (k m : Nat) (A : Arr) (h : τ.c k = some A) : ErS τ (.av k m) (.sl (A.xs.take m))
  | fv (k m : Nat) (B : Arr) (h : τ.f k = some B) (hm : m = B.xs.length) (hn : CleanL B.xs) : ErS τ (.fv k m) (.sl (eraseL B.xs))
  | dr (fs ys : List D) (hl : ys.length = fs.length) (h : ∀ (j : Nat) (d y : D), fs[j]? = some d → ys[j]? = some y → ErC τ d y) : ErS τ (.dr fs) (.agg ys)
theorem ErC.of {τ τ' : Ab} {d y : D} (h : ErC τ d y) (hc : ∀ k, refD d k → τ'.c k = τ.c k ∧ τ'.f k = τ.f k) : ErC τ' d y := by
  cases h with
  | sc v => exact .sc v
  | sl xs => exact .sl xs
  | av k m A h hm => exact .av k m A (by rw [(hc k rfl).1]; exact h) hm
  | fv k m B h hm hn => exact .fv k m B (by rw [(hc k rfl).2]; exact h) hm hn
theorem ErS.of {τ τ' : Ab} {s : S} {y : D} (h : ErS τ s y) (hc : ∀ k, refS s k → τ'.c k = τ.c k ∧ τ'.f k = τ.f k) : ErS τ' s y := by
  cases h with
  | d => exact .d _
  | nil => exact .nil
  | av k m A h => exact .av k m A (by rw [(hc k rfl).1]; exact h)
  | fv k m B h hm hn => exact .fv k m B (by rw [(hc k rfl).2]; exact h) hm hn
  | dr fs ys hl h => exact .dr fs ys hl fun j d y hd hy => (h j d y hd hy).of fun k hk => hc k ⟨d, List.mem_of_getElem? hd, hk⟩

/-- The memory M' holds all that the live arrays hold. -/
structure Cov (p : Nat → Prop) (w : World) (M : Mem) (τ : Ab) (γ : Nat → Value) (φ : Nat → Nat → Prop) (M' : Mem) : Prop where
  le : Mem.le M M'
  c : ∀ k A g, p k → τ.c k = some A → (γ k).ownBlock = some g → ∀ off u, w.cell? ⟨g, off, none⟩ = some u → M' ⟨g, off, none⟩ = some u
  f : ∀ k B g, p k → τ.f k = some B → φ k g → ∀ off u, w.cell? ⟨g, off, none⟩ = some u → M' ⟨g, off, none⟩ = some u
theorem Cov.all {φ : Nat → Nat → Prop} (h : SimW X w0 M0 n τ ac w M γ) : Cov (fun _ => True) w M τ γ φ w.cell? := ⟨h.mw, fun _ _ _ _ _ _ _ _ h => h, fun _ _ _ _ _ _ _ _ h => h⟩

theorem Cov.arr {p : Nat → Prop} {φ : Nat → Nat → Prop} {M' : Mem} (h : SimW X w0 M0 n τ ac w M γ) (hc : Cov p w M τ γ φ M') {k : Nat} (hpk : p k) {A : Arr} (hA : τ.c k = some A) {m : Nat} (hm : m ≤ A.xs.length) : Rep M' (.sl (A.xs.take m)) (cutV (γ k) m) := by
  obtain ⟨_, ⟨⟨cs, hown, hcs, _⟩, hpos, _⟩⟩ := h.ow k A hA
  rcases own_form hown with ⟨hv, hn⟩ | ⟨g, cap, hv, h1, _⟩
  · have hm0 : m = 0 := by omega
    subst hm0
    rw [hv]; exact .nil none 0
  · have hob : (γ k).ownBlock = some g := by rw [hv]; rfl
    have := rep_of_cells (cellsOK_take (hcs.mono hc.le) hm) (ad := ⟨g, 0, none⟩) rfl (cap := cap) (by simp; omega) fun j u hu => by
      rw [List.getElem?_take] at hu
      split at hu
      · have h1 := hown.cells hob j u hu
        rw [addr_add0] at h1 ⊢
        exact hc.c k A g hpk hA hob j u h1
      · cases hu
    rw [hv]
    simpa [cutV, Nat.min_eq_left hm] using this
theorem Cov.tree {p : Nat → Prop} {φ : Nat → Nat → Prop} {M' : Mem} (ht : TrOK X.x w0 w M τ.us τ.c τ.f γ φ) (hc : Cov p w M τ γ φ M') {k : Nat} (hpk : p k) {B : Arr} (hB : τ.f k = some B) (hn : CleanL B.xs) : Rep M' (.sl (eraseL B.xs)) (γ k) := by
  have := (ht.row k B hB).2.2.eraseRep hc.le (.own _ _ _ hn) fun g hg => hc.f k B g hpk hB hg
  simpa [erase] using this
theorem f_len (h : SimW X w0 M0 n τ ac w M γ) {k : Nat} {B : Arr} (hB : τ.f k = some B) : LenV (γ k) B.xs.length := by
  obtain ⟨φ, cs, ψ, ht, hr⟩ := h.tree hB
  exact own_len hr.ho

theorem ErC.rep {p : Nat → Prop} {φ : Nat → Nat → Prop} {M' : Mem} (h : SimW X w0 M0 n τ ac w M γ) (ht : TrOK X.x w0 w M τ.us τ.c τ.f γ φ) (hc : Cov p w M τ γ φ M') {d y : D} (he : ErC τ d y) (hp : ∀ k, refD d k → p k) {v : Value} (hv : RepR M τ.us γ d v) : y.isCell = true ∧ Rep M' y v := by
  cases he with
  | sc v => exact ⟨rfl, Rep.mono hc.le hv⟩
  | sl xs => exact ⟨rfl, Rep.mono hc.le hv⟩
  | av k m A hA hm =>
    refine ⟨rfl, ?_⟩
    obtain ⟨_, hl, e⟩ := hv
    have := hc.arr h (hp k rfl) hA (Nat.le_refl _)
    rw [List.take_length, cutV_len (m := A.xs.length) (by rw [← hm, ← e]; exact hl), ← e] at this
    exact this
  | fv k m B hB hm hn =>
    refine ⟨rfl, ?_⟩
    obtain ⟨_, hl, e⟩ := hv
    rw [e]; exact hc.tree ht (hp k rfl) hB hn
theorem ErS.rep {p : Nat → Prop} {φ : Nat → Nat → Prop} {M' : Mem} (h : SimW X w0 M0 n τ ac w M γ) (ht : TrOK X.x w0 w M τ.us τ.c τ.f γ φ) (hc : Cov p w M τ γ φ M') {s : S} {y : D} (he : ErS τ s y) (hp : ∀ k, refS s k → p k) {v : Value} (hv : RepS M τ γ s v) : Rep M' y v := by
  cases he with
  | d => exact Rep.mono hc.le hv
  | nil => rw [show v = .slice none 0 0 from hv]; exact .nil _ _
  | av k m A hA =>
    obtain ⟨hm, e⟩ := hv.2 A hA
    rw [e]; exact hc.arr h (hp k rfl) hA hm
  | fv k m B hB hm hn =>
    obtain ⟨_, e⟩ := hv.2 B hB
    rw [e, hm, cutV_len (f_len h hB)]
    exact hc.tree ht (hp k rfl) hB hn
  | dr fs ys hl hh =>
    obtain ⟨cs, e, hcl, hcells⟩ := hv
    subst e
    have key : ∀ (j : Nat) (y : D), ys[j]? = some y → y.isCell = true ∧ Rep M' y (cs.getD j undef) := fun j y hy => by
      have hj := (List.getElem?_eq_some_iff.1 hy).1
      have hd : fs[j]? = some (fs[j]'(by omega)) := List.getElem?_eq_getElem _
      exact (hh j _ y hd hy).rep h ht hc (fun k hk => hp k ⟨_, List.mem_of_getElem? hd, hk⟩) (hcells j _ hd).2
    exact .agg ys cs (by omega) (fun f hf => by obtain ⟨j, hj⟩ := List.getElem?_of_mem hf; exact (key j f hj).1) fun j f hj => (key j f hj).2

/-! ### Arguments that are only read -/
inductive ErA (τ : Ab) : S → A1 → Prop
  | d {s : S} {x : D} (h : ErS τ s x) : ErA τ s (.d x)
  | fn (f : FuncId) : ErA τ (.fn f) (.fn f)
structure ErAs (τ : Ab) (ss : List S) (as : List A1) : Prop where
  len : as.length = ss.length
  at' : ∀ (j : Nat) (s : S) (a : A1), ss[j]? = some s → as[j]? = some a → ErA τ s a
theorem ErAs.nil : ErAs τ [] [] := ⟨rfl, fun j s a h => by simp at h⟩
theorem ErAs.cons {s : S} {a : A1} {ss : List S} {as : List A1} (h : ErA τ s a) (t : ErAs τ ss as) : ErAs τ (s :: ss) (a :: as) := by
  refine ⟨by simp [t.len], fun j s' a' h1 h2 => ?_⟩
  cases j with
  | zero => simp at h1 h2; subst h1; subst h2; exact h
  | succ j => exact t.at' j s' a' (by simpa using h1) (by simpa using h2)

/-! ### Trees that a call hands back -/
abbrev Pure (w : World) (d : D) (v : Value) (Φ : Nat → Prop) : Prop := CellT w (fun _ => none) (fun _ => false) (fun _ => undef) d v Φ
theorem Pure.noref {e : TypeId} {sz : Nat} {xs : List D} {v : Value} {Φ : Nat → Prop} (h : Pure w (.own e sz xs) v Φ) {j m : Nat} : D.ref j m ∉ fl xs := fun hm => by
  cases h with
  | pl _ _ _ h => cases h
  | own _ _ _ _ _ cs ψ ho hp hw hc =>
    obtain ⟨p, hp2⟩ := List.getElem?_of_mem hm
    have hl := (List.getElem?_eq_some_iff.1 hp2).1
    have : cs[p]? = some (cs[p]'(by rw [ho.1, ← fl_len hw]; exact hl)) := List.getElem?_eq_getElem _
    have h1 := hc p _ _ hp2 this
    cases h1 with
    | pl _ _ _ h => cases h
    | ref _ _ _ _ h => cases h
theorem Pure.any {d : D} {v : Value} {Φ : Nat → Prop} (h : Pure w d v Φ) (us : Nat → Bool) : CellT w M us γ d v Φ :=
  CellT.keep (fun _ _ h => by cases h) (fun _ h => by cases h) h fun _ _ => rfl

theorem SimW.tadopt (h : SimW X w0 M0 n τ ac w M γ) {φ : Nat → Nat → Prop} (ht : TrOK X.x w0 w M τ.us τ.c τ.f γ φ) {d : Nat} {B : Arr} {v : Value} {Φ : Nat → Prop} (hd : τ.us d = false) (hdp : ∀ u, X.pn d ≠ some u)
    (hrow : Pure w (.own B.e B.sz B.xs) v Φ) (hΦ : ∀ g, Φ g → g < w.heap.size ∧ (w0.heap.size ≤ g ∨ X.x g) ∧ (∀ off sp, M ⟨g, off, sp⟩ = none) ∧ (∀ j A, τ.c j = some A → (γ j).ownBlock ≠ some g) ∧ ∀ j B, τ.f j = some B → ¬ φ j g) :
    SimW X w0 M0 n (τ.gho [(1000000 + d, .fa B)] [d]) ac w M (upd γ d v) ∧
    TrOK X.x w0 w M (τ.gho [(1000000 + d, .fa B)] [d]).us (τ.gho [(1000000 + d, .fa B)] [d]).c (τ.gho [(1000000 + d, .fa B)] [d]).f (upd γ d v) (fun j g => if j = d then Φ g else φ j g) := by
  generalize hτ : τ.gho [(1000000 + d, .fa B)] [d] = τ'
  generalize hγ : upd γ d v = γ'
  have usd : τ'.us = fun j => decide (j = d) || τ.us j := by rw [← hτ]; funext j; rw [gho_us]; simp
  have cd : τ'.c = τ.c := by rw [← hτ, gho_c]
  have shd : τ'.sh = τ.sh := by rw [← hτ, gho_sh]
  have hne : ∀ j, τ.us j = true → j ≠ d := fun j hj e => by rw [e, hd] at hj; cases hj
  have hup : ∀ j, τ.us j = true → γ' j = γ j := fun j hj => by simp [← hγ, upd, hne j hj]
  have hud : γ' d = v := by simp [← hγ, upd]
  have umono : ∀ j, τ.us j = true → τ'.us j = true ∧ γ' j = γ j := fun j hj => ⟨by rw [usd]; simp [hj], hup j hj⟩
  have fs : ∀ j, τ'.f j = if j = d then some B else τ.f j := fun j => by
    rw [← hτ, gho_f]
    simp only [lkG]
    by_cases e1 : j = d
    · rw [if_pos (by omega), if_pos e1]
    · rw [if_neg (by omega), if_neg e1]
  have hgo : Goes τ τ' γ γ' := fun j hj => by
    refine ⟨(umono j hj).1, fun A' hA' => ⟨A', by rw [cd] at hA'; exact hA', rfl, Nat.le_refl _, hup j hj⟩, hup j hj, fun B' hB' => ?_⟩
    rw [fs, if_neg (hne j hj)] at hB'
    exact ⟨B', hB', rfl, Nat.le_refl _⟩
  have htr : TrOK X.x w0 w M τ'.us τ'.c τ'.f γ' (fun j g => if j = d then Φ g else φ j g) := by
    refine ⟨fun j B' hB' => ?_, fun j B' g' hB' hg' => ?_, fun j j' B1 B2 g' h1 h2 g1 g2 => ?_⟩
    · rw [fs] at hB'
      rw [cd]
      by_cases e1 : j = d
      · rw [if_pos e1] at hB'
        cases hB'
        subst e1
        simp only [if_true]
        rw [hud]
        refine ⟨by rw [usd]; simp, ?_, hrow.any _⟩
        cases hc : τ.c j with
        | none => rfl
        | some A => have := (h.ow j A hc).1; rw [hd] at this; cases this
      · rw [if_neg e1] at hB'
        simp only [e1, if_false]
        obtain ⟨a, b, c⟩ := ht.row j B' hB'
        rw [hup j a]
        exact ⟨(umono j a).1, b, c.keep (Mem.le_refl M) umono fun g hg => rfl⟩
    · rw [fs] at hB'
      rw [cd]
      by_cases e1 : j = d
      · rw [if_pos e1] at hg'
        obtain ⟨a, b, c, e, _⟩ := hΦ g' hg'
        exact ⟨a, b, c, fun i A hA => by rw [hup i (h.ow i A hA).1]; exact e i A hA⟩
      · rw [if_neg e1] at hB' hg'
        obtain ⟨a, b, c, e⟩ := ht.new j B' g' hB' hg'
        exact ⟨a, b, c, fun i A hA => by rw [hup i (h.ow i A hA).1]; exact e i A hA⟩
    · rw [fs] at h1 h2
      by_cases e1 : j = d
      · rw [if_pos e1] at g1
        by_cases e2 : j' = d
        · rw [e1, e2]
        · rw [if_neg e2] at g2 h2
          exact absurd g2 ((hΦ g' g1).2.2.2.2 j' B2 h2)
      · rw [if_neg e1] at g1 h1
        by_cases e2 : j' = d
        · rw [if_pos e2] at g2
          exact absurd g1 ((hΦ g' g2).2.2.2.2 j B1 h1)
        · rw [if_neg e2] at g2 h2
          exact ht.dis j j' B1 B2 g' h1 h2 g1 g2
  refine ⟨h.ghost (fun t => ?_) hgo (fun j A hA => ?_) (fun j j' A A' g' h1 h2 g1 g2 => ?_) (fun j v' hj => ?_) ⟨_, htr⟩, htr⟩
  · rw [← hτ, gho_s]
    simp only [lkG]
    by_cases e1 : t = 1000000 + d
    · right; left
      rw [if_pos e1]
      exact ⟨_, rfl, fun j m hm => absurd hm hrow.noref⟩
    · left
      rw [if_neg e1]; rfl
  · rw [cd] at hA
    obtain ⟨h1, h2⟩ := h.ow j A hA
    rw [shd, hup j h1]
    exact ⟨(umono j h1).1, h2⟩
  · rw [cd] at h1 h2
    rw [hup j (h.ow j A h1).1] at g1
    rw [hup j' (h.ow j' A' h2).1] at g2
    exact h.di j j' A A' g' h1 h2 g1 g2
  · obtain ⟨p1, p2, p3, p4⟩ := h.pin j v' hj
    have hjd : j ≠ d := fun e => hdp v' (e ▸ hj)
    rw [show γ' j = γ j by simp [← hγ, upd, hjd]]
    exact ⟨fun A hA => p3 A (by rw [cd] at hA; exact hA), fun B' hB' => p4 B' (by rw [fs, if_neg hjd] at hB'; exact hB')⟩

/-- The fields that own their rows, as slices of new tree arrays from key b on. -/
def trFs (b : Nat) : Nat → List D → List D
  | _, [] => []
  | i, .own _ _ xs :: r => .ref (b + i) xs.length :: trFs b (i + 1) r
  | i, x :: r => x :: trFs b (i + 1) r
def trGh (b : Nat) : Nat → List D → List (Nat × S)
  | _, [] => []
  | i, .own e sz xs :: r => (1000000 + (b + i), .fa ⟨e, sz, xs⟩) :: trGh b (i + 1) r
  | i, _ :: r => trGh b (i + 1) r
def trNu (b : Nat) : Nat → List D → List Nat
  | _, [] => []
  | i, .own _ _ _ :: r => (b + i) :: trNu b (i + 1) r
  | i, _ :: r => trNu b (i + 1) r
def okT : D → Bool
  | .sc _ => true
  | .sl _ => true
  | .own _ _ _ => true
  | _ => false
theorem trNu_ge {b : Nat} : ∀ {i : Nat} {fs : List D} {k : Nat}, k ∈ trNu b i fs → b + i ≤ k ∧ k < b + i + fs.length
  | i, [], k, h => by simp [trNu] at h
  | i, x :: r, k, h => by
    have key : k ∈ trNu b (i + 1) r → b + i ≤ k ∧ k < b + i + (x :: r).length := fun h => by
      have := trNu_ge h
      simp only [List.length_cons]; omega
    cases x with
    | own e sz xs =>
      rcases List.mem_cons.1 h with rfl | h
      · simp only [List.length_cons]; omega
      · exact key h
    | _ => exact key h
theorem trGh_ge {b : Nat} : ∀ {i : Nat} {fs : List D} {p : Nat × S}, p ∈ trGh b i fs → ∃ k, p.1 = 1000000 + k ∧ k ∈ trNu b i fs
  | i, [], k, h => by simp [trGh] at h
  | i, x :: r, p, h => by
    cases x with
    | own e sz xs =>
      rcases List.mem_cons.1 h with rfl | h
      · exact ⟨b + i, rfl, List.mem_cons_self⟩
      · obtain ⟨k, h1, h2⟩ := trGh_ge (i := i + 1) (fs := r) h
        exact ⟨k, h1, List.mem_cons_of_mem _ h2⟩
    | _ => exact trGh_ge (i := i + 1) (fs := r) h
theorem trFs_ref {b : Nat} : ∀ {i : Nat} {fs : List D}, (∀ d ∈ fs, okT d = true) → ∀ {d : D} {k : Nat}, d ∈ trFs b i fs → refD d k → k ∈ trNu b i fs
  | i, [], _, d, k, h, _ => by simp [trFs] at h
  | i, x :: r, hok, d, k, h, hr => by
    have ih := fun h => trFs_ref (b := b) (i := i + 1) (fs := r) (fun d hd => hok d (List.mem_cons_of_mem _ hd)) (d := d) (k := k) h hr
    have hx := hok x List.mem_cons_self
    cases x with
    | own e sz xs =>
      rcases List.mem_cons.1 h with rfl | h
      · rw [show k = b + i from hr]; exact List.mem_cons_self
      · exact List.mem_cons_of_mem _ (ih h)
    | sc v =>
      rcases List.mem_cons.1 h with rfl | h
      · exact hr.elim
      · exact ih h
    | sl ys =>
      rcases List.mem_cons.1 h with rfl | h
      · exact hr.elim
      · exact ih h
    | agg => cases hx
    | ref => cases hx
    | jk => cases hx
theorem gho_cons (τ : Ab) (x : Nat × S) (k : Nat) (gh : List (Nat × S)) (nu : List Nat) (h : ∀ p ∈ gh, p.1 ≠ x.1) : τ.gho (x :: gh) (k :: nu) = (τ.gho [x] [k]).gho gh nu := by
  refine Ab.ext' (funext fun t => ?_) (by rw [gho_c, gho_c, gho_c]) (by rw [gho_sh, gho_sh, gho_sh]) (funext fun j => ?_)
  · rw [gho_s, gho_s, gho_s]
    obtain ⟨a, s⟩ := x
    simp only [lkG]
    by_cases e : t = a
    · rw [if_pos e, if_pos e]
      have : lkG t gh = none := by
        cases hl : lkG t gh with
        | none => rfl
        | some s' => exact absurd e (h _ (lkG_mem hl))
      rw [this]; rfl
    · rw [if_neg e, if_neg e]
      cases lkG t gh <;> rfl
  · rw [gho_us, gho_us, gho_us]
    simp only [List.contains_cons, List.contains_nil, Bool.or_false]
    cases (j == k) <;> simp

theorem trFs_put {b : Nat} {vs : Nat → Value} {ψ : Nat → Nat → Prop} (hdis : ∀ p p' g, ψ p g → ψ p' g → p = p') : ∀ {fs : List D} {i : Nat} {τ : Ab} {γ : Nat → Value} {φ : Nat → Nat → Prop}, SimW X w0 M0 n τ ac w M γ → TrOK X.x w0 w M τ.us τ.c τ.f γ φ →
    (∀ p, p < fs.length → τ.us (b + (i + p)) = false ∧ ∀ u, X.pn (b + (i + p)) ≠ some u) → (∀ d ∈ fs, okT d = true) → (∀ (p : Nat) (d : D), fs[p]? = some d → Pure w d (vs (i + p)) (ψ (i + p))) →
    (∀ p g, i ≤ p → ψ p g → g < w.heap.size ∧ (w0.heap.size ≤ g ∨ X.x g) ∧ (∀ off sp, M ⟨g, off, sp⟩ = none) ∧ (∀ j A, τ.c j = some A → (γ j).ownBlock ≠ some g) ∧ ∀ j B, τ.f j = some B → ¬ φ j g) →
    ∃ γ', SimW X w0 M0 n (τ.gho (trGh b i fs) (trNu b i fs)) ac w M γ' ∧ (∀ j, τ.us j = true → γ' j = γ j) ∧ ∀ (p : Nat) (d : D), (trFs b i fs)[p]? = some d → d.isCell = true ∧ RepR M (τ.gho (trGh b i fs) (trNu b i fs)).us γ' d (vs (i + p))
  | [], i, τ, γ, φ, h, ht, _, _, _, _ => ⟨γ, h, fun _ _ => rfl, fun p d hd => by simp [trFs] at hd⟩
  | x :: r, i, τ, γ, φ, h, ht, hu, hok, hc, hb => by
    have hokr : ∀ d ∈ r, okT d = true := fun d hd => hok d (List.mem_cons_of_mem _ hd)
    have hcr : ∀ (p : Nat) (d : D), r[p]? = some d → Pure w d (vs (i + 1 + p)) (ψ (i + 1 + p)) := fun p d hd => by
      have := hc (p + 1) d (by simpa using hd)
      rw [show i + 1 + p = i + (p + 1) by omega]; exact this
    have hx := hok x List.mem_cons_self
    have hc0 := hc 0 x rfl
    have plain : (x.isCell = true ∧ ∀ us γ, RepR M us γ x (vs i)) → trGh b i (x :: r) = trGh b (i + 1) r → trNu b i (x :: r) = trNu b (i + 1) r → trFs b i (x :: r) = x :: trFs b (i + 1) r →
        ∃ γ', SimW X w0 M0 n (τ.gho (trGh b i (x :: r)) (trNu b i (x :: r))) ac w M γ' ∧ (∀ j, τ.us j = true → γ' j = γ j) ∧ ∀ (p : Nat) (d : D), (trFs b i (x :: r))[p]? = some d → d.isCell = true ∧ RepR M (τ.gho (trGh b i (x :: r)) (trNu b i (x :: r))).us γ' d (vs (i + p)) := fun hp e1 e2 e3 => by
      rw [e1, e2, e3]
      obtain ⟨γ', h1, h2, h3⟩ := trFs_put hdis (i := i + 1) h ht (fun p hp => by
        have := hu (p + 1) (by simpa using hp)
        rw [show i + 1 + p = i + (p + 1) by omega]; exact this) hokr hcr (fun p g hp hg => hb p g (by omega) hg)
      refine ⟨γ', h1, h2, fun p d hd => ?_⟩
      cases p with
      | zero => simp at hd; subst hd; exact ⟨hp.1, hp.2 _ _⟩
      | succ p =>
        have := h3 p d (by simpa using hd)
        rw [show i + 1 + p = i + (p + 1) by omega] at this; exact this
    cases x with
    | sc v =>
      refine plain ⟨rfl, fun us γ => ?_⟩ rfl rfl rfl
      cases hc0 with
      | pl _ _ _ h1 => exact Rep.mono (fun _ _ h => by cases h) h1
    | sl ys =>
      refine plain ⟨rfl, fun us γ => ?_⟩ rfl rfl rfl
      cases hc0 with
      | pl _ _ _ h1 => exact Rep.mono (fun _ _ h => by cases h) h1
    | agg => cases hx
    | ref => cases hx
    | jk => cases hx
    | own e sz xs =>
      have hu0 := hu 0 (by simp)
      obtain ⟨h1, ht1⟩ := h.tadopt ht (d := b + i) (B := ⟨e, sz, xs⟩) (v := vs i) (Φ := ψ i) hu0.1 hu0.2 hc0 (fun g hg => hb i g (Nat.le_refl _) hg)
      have hgne : ∀ p ∈ trGh b (i + 1) r, p.1 ≠ (1000000 + (b + i), S.fa ⟨e, sz, xs⟩).1 := fun p hp => by
        obtain ⟨k, e1, e2⟩ := trGh_ge hp
        have := (trNu_ge e2).1
        simp only; omega
      have eg : τ.gho (trGh b i (.own e sz xs :: r)) (trNu b i (.own e sz xs :: r)) = (τ.gho [(1000000 + (b + i), .fa ⟨e, sz, xs⟩)] [b + i]).gho (trGh b (i + 1) r) (trNu b (i + 1) r) := gho_cons _ _ _ _ _ hgne
      generalize hτ1 : τ.gho [(1000000 + (b + i), S.fa ⟨e, sz, xs⟩)] [b + i] = τ1 at h1 ht1 eg
      have us1 : ∀ j, τ1.us j = (decide (j = b + i) || τ.us j) := fun j => by rw [← hτ1, gho_us]; simp
      have c1 : τ1.c = τ.c := by rw [← hτ1, gho_c]
      have f1 : ∀ j, τ1.f j = if j = b + i then some ⟨e, sz, xs⟩ else τ.f j := fun j => by
        rw [← hτ1, gho_f]
        simp only [lkG]
        by_cases e1 : j = b + i
        · rw [if_pos (by omega), if_pos e1]
        · rw [if_neg (by omega), if_neg e1]
      obtain ⟨γ', h2, h3, h4⟩ := trFs_put hdis (i := i + 1) h1 ht1 (fun p hp => by
        have := hu (p + 1) (by simpa using hp)
        rw [show i + 1 + p = i + (p + 1) by omega]
        refine ⟨?_, this.2⟩
        rw [us1, this.1, decide_eq_false (by omega)]; rfl) hokr hcr (fun p g hp hg => by
        obtain ⟨a1, a2, a3, a4, a5⟩ := hb p g (by omega) hg
        refine ⟨a1, a2, a3, fun j A hA => ?_, fun j B hB hφ => ?_⟩
        · rw [c1] at hA
          have hj : j ≠ b + i := fun e1 => by have := (h.ow j A hA).1; rw [e1] at this; rw [show b + i = b + (i + 0) from rfl, hu0.1] at this; cases this
          rw [show upd γ (b + i) (vs i) j = γ j by simp [upd, hj]]
          exact a4 j A hA
        · rw [f1] at hB
          by_cases e1 : j = b + i
          · rw [if_pos e1] at hφ
            have := hdis _ _ _ hg hφ
            omega
          · rw [if_neg e1] at hB hφ
            exact a5 j B hB hφ)
      rw [eg]
      refine ⟨γ', h2, fun j hj => ?_, fun p d hd => ?_⟩
      · have hne : j ≠ b + i := fun e1 => by rw [e1] at hj; rw [show b + i = b + (i + 0) from rfl, hu0.1] at hj; cases hj
        rw [h3 j (by rw [us1, hj, Bool.or_true])]
        simp [upd, hne]
      · cases p with
        | zero =>
          simp only [trFs, List.getElem?_cons_zero, Option.some.injEq] at hd
          subst hd
          have hl : LenV (vs i) xs.length := by
            obtain ⟨cs, ψ', hr⟩ := CellT.trow (B := ⟨e, sz, xs⟩) hc0
            exact own_len hr.ho
          refine ⟨rfl, ?_, hl, ?_⟩
          · rw [gho_us, us1]; simp
          · rw [h3 (b + i) (by rw [us1]; simp)]
            simp [upd]
        | succ p =>
          have := h4 p d (by simpa [trFs] using hd)
          rw [show i + 1 + p = i + (p + 1) by omega] at this; exact this

/-- What a call that hands back a tree leaves. -/
inductive TrRes (τ : Ab) (dst : Option Nat) : Res → S → List (Nat × S) → List Nat → Prop
  | sl (e : TypeId) (sz : Nat) (xs : List D) (d : Nat) (hd : dst = some d) (hu : τ.us d = false) (hn : NoRefL xs) : TrRes τ dst (.one (.tr (.own e sz xs))) (.fv d xs.length) [(1000000 + d, .fa ⟨e, sz, xs⟩)] [d]
  | tup (e : TypeId) (sz : Nat) (xs : List D) (rest : List Value) (d : Nat) (hd : dst = some d) (hu : τ.us d = false) (hn : NoRefL xs) : TrRes τ dst (.tup (.tr (.own e sz xs)) (rest.map .sc)) (.tup (.fv d xs.length :: rest.map fun v => .d (.sc v))) [(1000000 + d, .fa ⟨e, sz, xs⟩)] [d]
  | st (fs : List D) (d : Nat) (hd : dst = some d) (hu : ∀ p, p < fs.length → τ.us (200000 + 100 * d + p) = false) (hl : fs.length ≤ 100) (hok : ∀ x ∈ fs, okT x = true) (hn : ∀ x ∈ fs, NoRef x) :
      TrRes τ dst (.one (.tr (.agg fs))) (.dr (trFs (200000 + 100 * d) 0 fs)) (trGh (200000 + 100 * d) 0 fs) (trNu (200000 + 100 * d) 0 fs)

theorem pin_lt (h : SimW X w0 M0 n τ ac w M γ) {k : Nat} (hk : k < n ∨ 200000 ≤ k) (u : Value) : X.pn k ≠ some u := fun e => by
  have := (h.pin k u e).2.1
  omega
theorem trOne_put {w' : World} {e : TypeId} {sz : Nat} {xs : List D} {d : Nat} {v : Value} {ψ : Nat → Nat → Prop} (h : SimW X w0 M0 n τ ac w M γ) (hdn : d < n) (hu : τ.us d = false) (hb : Below w.heap.size w w') (hv : TrVal w.heap.size w' (.own e sz xs) v ψ) :
    SimW X w0 M0 n (τ.gho [(1000000 + d, .fa ⟨e, sz, xs⟩)] [d]) ac w' M (upd γ d v) ∧ LenV v xs.length := by
  have hmw : ∀ a u, M a = some u → w'.cell? a = some u := fun a u hu => by
    have h1 := h.mw a u hu
    rw [hb.cell (block_lt_of_cell h1)]; exact h1
  have hpure : Pure w' (.own e sz xs) v (ψ 0) := hv.at' 0 _ v rfl (by rw [hv.one rfl]; rfl)
  have hl : LenV v xs.length := by
    obtain ⟨cs, ψ', hr⟩ := CellT.trow (B := ⟨e, sz, xs⟩) hpure
    exact own_len hr.ho
  refine ⟨h.tal (Φ := ψ 0) hu (fun u => pin_lt h (.inl hdn) u) hb (Mem.le_refl M) hmw (fun _ _ h => .inl h) rfl rfl (hpure.any _) (fun g hg => ?_) (fun j m hjm => absurd hjm hpure.noref), hl⟩
  obtain ⟨a, b⟩ := hv.new 0 g hg
  exact ⟨a, b, fun off sp => no_mem_new h a off sp⟩
theorem fvS' {e : TypeId} {sz : Nat} {xs : List D} {d : Nat} {v : Value} (hl : LenV v xs.length) : RepS M (τ.gho [(1000000 + d, .fa ⟨e, sz, xs⟩)] [d]) (upd γ d v) (.fv d xs.length) v := by
  refine ⟨⟨by rw [gho_us]; simp, hl⟩, fun B hB => ?_⟩
  have : (τ.gho [(1000000 + d, .fa ⟨e, sz, xs⟩)] [d]).f d = some ⟨e, sz, xs⟩ := by rw [gho_f]; simp [lkG]
  rw [this] at hB; cases hB
  exact ⟨Nat.le_refl _, by rw [show upd γ d v d = v by simp [upd], cutV_len hl]⟩
theorem tr_put {w' : World} {M' : Mem} {r : Res} {dst : Option Nat} {s : S} {gh : List (Nat × S)} {nu : List Nat} {v : Value} (h : SimW X w0 M0 n τ ac w M γ) (hd : ∀ d, dst = some d → d < n) (hr : TrRes τ dst r s gh nu)
    (hb : Below w.heap.size w w') (hv : RepRes w w' M' r v) : Sim X w0 M0 n ((τ.gho gh nu).put dst s) (ac.put dst v) w' := by
  have hmw : ∀ a u, M a = some u → w'.cell? a = some u := fun a u hu => by
    have h1 := h.mw a u hu
    rw [hb.cell (block_lt_of_cell h1)]; exact h1
  have sc : ∀ {u v : Value}, Rep M' (.sc u) v → Rep M (.sc u) v := fun {u v} hr => by cases hr with | sc _ h => exact .sc _ h
  cases hr with
  | sl e sz xs d h1 hu hn =>
    obtain ⟨ψ, hv⟩ := hv
    obtain ⟨h2, hl⟩ := trOne_put h (hd d h1) hu hb hv
    exact ⟨M, _, h2.put hd (fvS' hl)⟩
  | tup e sz xs rest d h1 hu hn =>
    obtain ⟨vs, e1, hsz, ⟨ψ, hv⟩, hrest⟩ := hv
    obtain ⟨h2, hl⟩ := trOne_put h (hd d h1) hu hb hv
    refine ⟨M, _, h2.put hd ⟨vs, e1, by simpa using hsz, fun j s hs => ?_⟩⟩
    cases j with
    | zero => simp at hs; subst hs; exact fvS' (M := M) hl
    | succ j =>
      rw [List.getElem?_cons_succ, List.getElem?_map] at hs
      cases hx : rest[j]? with
      | none => simp [hx] at hs
      | some y => simp [hx] at hs; subst hs; exact sc (hrest j _ (by simp [hx]))
  | st fs d h1 hu hl hok hn =>
    obtain ⟨ψ, hv⟩ := hv
    obtain ⟨φ, ht⟩ := h.tr
    have hw := h.call hb (Mem.le_refl M) hmw (fun _ _ h => .inl h)
    have ht' : TrOK X.x w0 w' M τ.us τ.c τ.f γ φ := ht.keep (Mem.le_refl M) (fun _ h => ⟨h, rfl⟩) (fun _ _ h => h) (fun _ A h _ => ⟨A, h⟩) hb.size fun g hg _ h3 h4 => ⟨hb.block g hg, h3, h4⟩
    obtain ⟨cs, e1⟩ := hv.agg fs rfl
    have hcs : v.cells.toList = cs.toList := by rw [e1]; rfl
    have hlen : cs.size = fs.length := by have := hv.len; rw [e1] at this; exact this
    obtain ⟨γ', g1, g2, g3⟩ := trFs_put (b := 200000 + 100 * d) (vs := fun p => cs.getD p undef) hv.dis (fs := fs) (i := 0) hw ht' (fun p hp => by
        rw [Nat.zero_add]
        exact ⟨hu p hp, pin_lt h (.inr (by omega))⟩) hok (fun p x hx => by
        rw [Nat.zero_add]
        have hpl := (List.getElem?_eq_some_iff.1 hx).1
        have hget : cs[p]? = some (cs[p]'(by omega)) := Array.getElem?_eq_getElem (by omega)
        refine hv.at' p x _ hx ?_
        rw [hcs]
        simp [hget]) (fun p g _ hg => by
        obtain ⟨a, b⟩ := hv.new p g hg
        refine ⟨b, .inl (Nat.le_trans h.hsz a), fun off sp => no_mem_new h a off sp, fun j A hA e => ?_, fun j B hB hφ => ?_⟩
        · have := (h.ow j A hA).2.lt g e
          omega
        · have := (ht.new j B g hB hφ).1
          omega)
    refine ⟨M, γ', g1.put hd ⟨cs, e1, ?_, fun j x hx => ?_⟩⟩
    · have : ∀ (b i : Nat) (fs : List D), (trFs b i fs).length = fs.length := fun b i fs => by
        induction fs generalizing i with
        | nil => rfl
        | cons x r ih => cases x <;> simp [trFs, ih]
      rw [this]; exact hlen
    · have := g3 j x hx
      rw [Nat.zero_add] at this
      exact this

/-- What a call leaves whose arguments are only read. -/
inductive OutR (τ : Ab) (dst : Option Nat) : Res → Ef → Prop
  | flat {r : Res} {s : S} (h : FlatRes r s) : OutR τ dst r { s }
  | fr {r : Res} {s : S} {p : Nat × Arr} (h : FrRes τ dst r s p) : OutR τ dst r { s, al := some p }
  | tr {r : Res} {s : S} {gh : List (Nat × S)} {nu : List Nat} (h : TrRes τ dst r s gh nu) : OutR τ dst r { s, gh, nu }

theorem TrRes.like {τ τ' : Ab} {dst : Option Nat} {r : Res} {s : S} {gh : List (Nat × S)} {nu : List Nat} (h : TrRes τ dst r s gh nu) (hu : ∀ d, dst = some d → ∀ k, keyOf d k → τ.us k = false → τ'.us k = false) : TrRes τ' dst r s gh nu := by
  cases h with
  | sl e sz xs d hd h hn => exact .sl e sz xs d hd (hu d hd d (.inl rfl) h) hn
  | tup e sz xs rest d hd h hn => exact .tup e sz xs rest d hd (hu d hd d (.inl rfl) h) hn
  | st fs d hd h hl hok hn => exact .st fs d hd (fun p hp => hu d hd _ (.inr (by omega)) (h p hp)) hl hok hn

theorem Seen.callR {o : Oper} {fx : Operand} {args : Array Operand} {tys : Array TypeId} {f : FuncId} {as : List A1} {r : Res} {e : Ef} (ho : o.op = .call { callee := .value fx, args, argTypes := tys }) (hf : τ.val fx = .fn f) (hx : ErAs τ (args.toList.map τ.val) as)
    (hc : Contract P f as r) (hr : OutR τ o.dst r e) : Seen P false o τ e := by
  have hm := args_mem ho
  have hfx : fx ∈ o.op.operands := by rw [ho]; simp [Op.operands, Call.operands]
  have hrun : ∀ τ0, Like false o τ τ0 → ∀ {X : Env} {w0 : World} {M0 : Mem} {n : Nat} {ac : Act} {w : World} {M : Mem} {γ : Nat → Value}, SimW X w0 M0 n τ0 ac w M γ → ∀ (K : Act → World → Prop) (Q : Exit → Act → World → Prop),
      (∀ v w' M', Below w.heap.size w w' → RepRes w w' M' r v → K (ac.put o.dst v) w') → o.wp P ac w K Q := fun τ0 hl X w0 M0 n ac w M γ h K Q hK => by
    obtain ⟨φ, ht⟩ := h.tr
    have hfv : ac.eval fx = .func (.func f) #[] #[] := by
      have := h.val fx
      rw [hl.v fx hfx, hf] at this
      exact this
    refine wp_call (run_call ho hfv hc.ent) (hc.run w w.cell? (args.map ac.eval) (fun _ _ h => h) (by have := hx.len; simp at this; simp [this]) fun j a ha => ?_) fun v w' ⟨v', M', e1, h1, _, _, _, h2⟩ => by
      cases e1; exact hK v w' M' h1 h2
    have hj := (List.getElem?_eq_some_iff.1 ha).1
    have hjl : j < args.toList.length := by have := hx.len; simp at this; simp; omega
    have hy : args.toList[j]? = some args.toList[j] := List.getElem?_eq_getElem hjl
    have hmem := hm _ (List.mem_of_getElem? hy)
    have he := hx.at' j _ a (by rw [List.getElem?_map, hy]; rfl) ha
    have e2 : (args.map ac.eval).getD j undef = ac.eval args.toList[j] := by
      have : (args.map ac.eval)[j]? = some (ac.eval args.toList[j]) := by
        rw [Array.getElem?_map, ← Array.getElem?_toList, hy]; rfl
      simp [this]
    rw [e2]
    have hv := h.val args.toList[j]
    rw [hl.v _ hmem] at hv
    generalize hs : τ.val args.toList[j] = s at he hv
    cases he with
    | fn g => exact hv
    | d hh => exact (hh.of fun k hk => hl.c k ⟨_, hmem, by rw [hs]; exact hk⟩).rep h ht (Cov.all h) (fun _ _ => trivial) hv
  have us0 : ∀ τ0, Like false o τ τ0 → ∀ d, o.dst = some d → ∀ k, keyOf d k → τ.us k = false → τ0.us k = false := fun τ0 hl d hd k hk hu => (hl.u d hd k hk hu).1
  cases hr with
  | @flat s h =>
    refine ⟨fun _ => ⟨rfl, rfl, fun p hp => by simp at hp⟩, fun k h => (by cases h), fun k A h => (by cases h), fun k h => (by simp at h), fun k A h => (by cases h), fun k h => (by simp at h), fun p h => (by simp at h), fun k hk => ?_, fun τ0 hl => ?_⟩
    · rcases hk with hk | ⟨p, hp, _⟩
      · exfalso
        cases h with
        | d u => exact hk
        | tup u rest =>
          obtain ⟨t, ht, hr⟩ := hk
          rcases List.mem_cons.1 ht with rfl | ht
          · exact hr
          · obtain ⟨y, _, rfl⟩ := List.mem_map.1 ht; exact hr
      · simp at hp
    · intro X w0 M0 n ac w M γ hd hs Q
      exact hrun τ0 hl hs _ Q fun v w' M' hb hv => flat_put hs hd h hb hv
  | @fr s p h =>
    refine ⟨fun _ => ⟨rfl, rfl, fun p hp => by simp at hp⟩, fun k h => (by cases h), fun k A h => (by cases h), fun k h => (by simp at h), fun k A e => (by cases e; exact h.fst), fun k h => (by simp at h), fun p h => (by simp at h), fun k hk => ?_, fun τ0 hl => ?_⟩
    · rcases hk with hk | ⟨q, hq, _⟩
      · refine .inr (.inr ⟨p.2, ?_⟩)
        have : k = p.1 := by
          cases h with
          | one A d h hu => exact hk
          | tup A rest d h hu =>
            obtain ⟨t, ht, h⟩ := hk
            rcases List.mem_cons.1 ht with rfl | ht
            · exact h
            · obtain ⟨u, _, rfl⟩ := List.mem_map.1 ht; exact h.elim
        subst this; rfl
      · simp at hq
    · intro X w0 M0 n ac w M γ hd hs Q
      have h' : FrRes τ0 o.dst r s p := by
        cases h with
        | one A d h hu => exact .one A d h (us0 τ0 hl d h d (.inl rfl) hu)
        | tup A rest d h hu => exact .tup A rest d h (us0 τ0 hl d h d (.inl rfl) hu)
      exact hrun τ0 hl hs _ Q fun v w' M' hb hv => fr_put hs hd h' hb hv
  | @tr s gh nu h =>
    have hgn : ∀ p ∈ gh, ∃ k, p.1 = 1000000 + k ∧ k ∈ nu := by
      cases h with
      | sl e sz xs d => exact fun p hp => ⟨d, by rw [List.mem_singleton.1 hp], List.mem_singleton.2 rfl⟩
      | tup e sz xs rest d => exact fun p hp => ⟨d, by rw [List.mem_singleton.1 hp], List.mem_singleton.2 rfl⟩
      | st fs d => exact fun p hp => trGh_ge hp
    refine ⟨fun _ => ⟨rfl, rfl, fun p hp => ?_⟩, fun k h => (by cases h), fun k A h => (by cases h), fun k h => (by simp at h), fun k A h => (by cases h), fun k hk => ?_, fun p hp => ?_, fun k hk => ?_, fun τ0 hl => ?_⟩
    · obtain ⟨k, a, b⟩ := hgn p hp; exact ⟨k, b, a⟩
    · cases h with
      | sl e sz xs d hd hu hn => rw [List.mem_singleton.1 hk]; exact ⟨hu, d, hd, .inl rfl⟩
      | tup e sz xs rest d hd hu hn => rw [List.mem_singleton.1 hk]; exact ⟨hu, d, hd, .inl rfl⟩
      | st fs d hd hu hl hok hn =>
        have := trNu_ge hk
        have e : k = 200000 + 100 * d + (k - (200000 + 100 * d)) := by omega
        exact ⟨by rw [e]; exact hu _ (by omega), d, hd, .inr (by omega)⟩
    · obtain ⟨k, a, b⟩ := hgn p hp
      exact ⟨k, a, .inr b⟩
    · rcases hk with hk | ⟨q, hq, hk⟩
      · refine .inr (.inl ?_)
        cases h with
        | sl e sz xs d => exact List.mem_singleton.2 hk
        | tup e sz xs rest d =>
          obtain ⟨t, ht, h⟩ := hk
          rcases List.mem_cons.1 ht with rfl | ht
          · exact List.mem_singleton.2 h
          · obtain ⟨u, _, rfl⟩ := List.mem_map.1 ht; exact h.elim
        | st fs d hd hu hl hok hn =>
          obtain ⟨x, hx, hk⟩ := hk
          exact trFs_ref hok hx hk
      · exfalso
        have key : ∀ (e : TypeId) (sz : Nat) (xs : List D), NoRefL xs → refS (.fa ⟨e, sz, xs⟩) k → False := fun e sz xs hn ⟨x, hx, hk⟩ => by
          have := hn x hx
          cases this <;> exact hk
        cases h with
        | sl e sz xs d hd hu hn => rw [List.mem_singleton.1 hq] at hk; exact key e sz xs hn hk
        | tup e sz xs rest d hd hu hn => rw [List.mem_singleton.1 hq] at hk; exact key e sz xs hn hk
        | st fs d hd hu hl hok hn =>
          have : ∀ (i : Nat) (fs : List D), (∀ x ∈ fs, NoRef x) → q ∈ trGh (200000 + 100 * d) i fs → False := fun i fs hn hq => by
            induction fs generalizing i with
            | nil => simp [trGh] at hq
            | cons x r ih =>
              have hr := ih (i + 1) fun x hx => hn x (List.mem_cons_of_mem _ hx)
              cases x with
              | own e sz xs =>
                rcases List.mem_cons.1 hq with rfl | hq
                · have h1 := hn _ List.mem_cons_self
                  cases h1 with
                  | own _ _ _ h1 => exact key e sz xs h1 hk
                · exact hr hq
              | _ => exact hr hq
          exact this 0 fs hn hq
    · intro X w0 M0 n ac w M γ hd hs Q
      exact hrun τ0 hl hs _ Q fun v w' M' hb hv => tr_put hs hd (h.like (us0 τ0 hl)) hb hv

/-! ### Calls to which trees are lent -/
/-- The blocks of a lent array, in the order of the list. -/
structure LentT (w : World) (M : Mem) (Bs : List Arr) (γ : Nat → Value) (φ : Nat → Nat → Prop) : Prop where
  row : ∀ (i : Nat) (B : Arr), Bs[i]? = some B → CellT w M (fun _ => false) (fun _ => undef) (.own B.e B.sz B.xs) (γ i) (φ i)
  new : ∀ i g, i < Bs.length → φ i g → g < w.heap.size ∧ ∀ off sp, M ⟨g, off, sp⟩ = none
  dis : ∀ i j g, i < Bs.length → j < Bs.length → φ i g → φ j g → i = j
/-- The lent arrays stand under the keys from 100000 on. -/
def lentAb (Bs : List Arr) : Ab :=
  { s := fun t => if 1100000 ≤ t then (match Bs[t - 1100000]? with | some B => .fa B | none => .junk) else .junk
    c := fun _ => none, sh := fun _ => false, us := fun k => decide (100000 ≤ k ∧ k < 100000 + Bs.length) }
theorem lentAb_f (Bs : List Arr) (k : Nat) : (lentAb Bs).f k = if 100000 ≤ k then Bs[k - 100000]? else none := by
  unfold Ab.f lentAb
  simp only
  by_cases h : 100000 ≤ k
  · rw [if_pos (by omega), if_pos h, show 1000000 + k - 1100000 = k - 100000 by omega]
    cases Bs[k - 100000]? <;> rfl
  · rw [if_neg (by omega), if_neg h]
structure TAfter (w : World) (M : Mem) (Bs Bs' : List Arr) (γ : Nat → Value) (φ : Nat → Nat → Prop) (w' : World) (M' : Mem) (φ' : Nat → Nat → Prop) : Prop where
  os : w'.os = w.os
  tape : w'.tape = w.tape
  output : w'.output = w.output
  hsz : w.heap.size ≤ w'.heap.size
  frame : ∀ k, k < w.heap.size → (∀ i, i < Bs.length → ¬ φ i k) → w'.heap[k]? = w.heap[k]?
  le : Mem.le M M'
  mw : ∀ a u, M' a = some u → w'.cell? a = some u
  mn : ∀ a u, M' a = some u → M a = some u ∨ w.heap.size ≤ a.block
  lent : LentT w' M' Bs' γ φ'
  blk : ∀ i g, i < Bs.length → φ' i g → (∃ j, j < Bs.length ∧ φ j g) ∨ w.heap.size ≤ g
def TEnds (w : World) (M : Mem) (Bs Bs' : List Arr) (γ : Nat → Value) (φ : Nat → Nat → Prop) (r : Value) (e : Ending) (w' : World) : Prop :=
  ∃ v M' φ', e = .returned v ∧ TAfter w M Bs Bs' γ φ w' M' φ' ∧ Rep M' (.sc r) v
structure LentS (Bs Bs' : List Arr) : Prop where
  len : Bs'.length = Bs.length
  at' : ∀ (i : Nat) (B B' : Arr), Bs[i]? = some B → Bs'[i]? = some B' → B'.e = B.e ∧ B'.sz = B.sz ∧ B'.xs.length = B.xs.length ∧ NoRefL B'.xs
/-- Every call with such arguments, and such trees lent, hands back the scalar r and leaves the trees so. -/
structure TContract (P : Program) (f : FuncId) (as : List S) (Bs Bs' : List Arr) (r : Value) : Prop where
  ent : Enters P f
  same : LentS Bs Bs'
  run : ∀ (w : World) (M : Mem) (γ : Nat → Value) (φ : Nat → Nat → Prop) (vs : Array Value), (∀ a v, M a = some v → w.cell? a = some v) → LentT w M Bs γ φ → vs.size = as.length →
    (∀ (j : Nat) (s : S), as[j]? = some s → RepS M (lentAb Bs) (fun k => γ (k - 100000)) s (vs.getD j undef)) → Calls P f vs w (TEnds w M Bs Bs' γ φ r)

theorem CellT.anyRef {us us' : Nat → Bool} {γ γ' : Nat → Value} {e : TypeId} {sz : Nat} {xs : List D} {v : Value} {Φ : Nat → Prop} (h : CellT w M us γ (.own e sz xs) v Φ) (hn : NoRefL xs) : CellT w M us' γ' (.own e sz xs) v Φ := h.free (.own _ _ _ hn)

def lentGh (ks : List Nat) (Bs : List Arr) : List (Nat × S) := (ks.zip Bs).map fun p => (1000000 + p.1, S.fa p.2)
theorem lkG_zip {ks : List Nat} : ∀ {Bs : List Arr}, Bs.length = ks.length → ks.Nodup → ∀ {i k : Nat} {B : Arr}, ks[i]? = some k → Bs[i]? = some B → lkG (1000000 + k) (lentGh ks Bs) = some (.fa B) := by
  induction ks with
  | nil => intro Bs _ _ i k B h; simp at h
  | cons j ks ih =>
    intro Bs hl hn i k B hk hB
    obtain ⟨hj, hn⟩ := List.nodup_cons.1 hn
    cases Bs with
    | nil => simp at hl
    | cons B0 Bs =>
      simp only [lentGh, List.zip_cons_cons, List.map_cons, lkG]
      cases i with
      | zero => simp at hk hB; subst hk; subst hB; rw [if_pos rfl]
      | succ i =>
        have hk : ks[i]? = some k := by simpa using hk
        have hne : k ≠ j := fun e => hj (e ▸ List.mem_of_getElem? hk)
        rw [if_neg (by omega)]
        exact ih (by simpa using hl) hn hk (by simpa using hB)
theorem lkG_zip_none {ks : List Nat} : ∀ {Bs : List Arr} {k : Nat}, k ∉ ks → lkG (1000000 + k) (lentGh ks Bs) = none := by
  induction ks with
  | nil => intro Bs k _; rfl
  | cons j ks ih =>
    intro Bs k hk
    cases Bs with
    | nil => rfl
    | cons B0 Bs =>
      simp only [lentGh, List.zip_cons_cons, List.map_cons, lkG]
      rw [if_neg (fun e => hk (by have : k = j := by omega
                                  rw [this]; exact List.mem_cons_self))]
      exact ih fun h => hk (List.mem_cons_of_mem _ h)
theorem lentGh_mem {ks : List Nat} {Bs : List Arr} {p : Nat × S} (h : p ∈ lentGh ks Bs) : ∃ k ∈ ks, ∃ B ∈ Bs, p = (1000000 + k, .fa B) := by
  obtain ⟨⟨k, B⟩, hq, rfl⟩ := List.mem_map.1 h
  exact ⟨k, (List.of_mem_zip hq).1, B, (List.of_mem_zip hq).2, rfl⟩

theorem SimW.tlent (h : SimW X w0 M0 n τ ac w M γ) {φ : Nat → Nat → Prop} (ht : TrOK X.x w0 w M τ.us τ.c τ.f γ φ) {ks : List Nat} {Bs Bs' : List Arr} (hn : ks.Nodup) (hl : Bs.length = ks.length) (hB : ∀ (i k : Nat) (B : Arr), ks[i]? = some k → Bs[i]? = some B → τ.f k = some B)
    (hs : LentS Bs Bs') {w' : World} {M' : Mem} {φ' : Nat → Nat → Prop} (ha : TAfter w M Bs Bs' (fun i => γ (ks.getD i 0)) (fun i => φ (ks.getD i 0)) w' M' φ') : SimW X w0 M0 n (τ.gho (lentGh ks Bs') []) ac w' M' γ := by
  generalize hτ : τ.gho (lentGh ks Bs') [] = τ'
  have usd : τ'.us = τ.us := by rw [← hτ]; funext j; rw [gho_us]; simp
  have cd : τ'.c = τ.c := by rw [← hτ, gho_c]
  have shd : τ'.sh = τ.sh := by rw [← hτ, gho_sh]
  have hl' : Bs'.length = ks.length := hs.len.trans hl
  have gd : ∀ {i k : Nat}, ks[i]? = some k → ks.getD i 0 = k := fun h => by simp [h]
  have ks0 : ∀ {i : Nat}, i < Bs.length → ∃ k B B', ks[i]? = some k ∧ Bs[i]? = some B ∧ Bs'[i]? = some B' ∧ τ.f k = some B := fun {i} hi => by
    have h1 : ks[i]? = some (ks[i]'(by omega)) := List.getElem?_eq_getElem _
    have h2 : Bs[i]? = some (Bs[i]'hi) := List.getElem?_eq_getElem _
    exact ⟨_, _, _, h1, h2, List.getElem?_eq_getElem (by omega), hB i _ _ h1 h2⟩
  have F1 : ∀ {i k : Nat} {B' : Arr}, ks[i]? = some k → Bs'[i]? = some B' → τ'.f k = some B' := fun h1 h2 => by rw [← hτ, gho_f, lkG_zip hl' hn h1 h2]
  have F2 : ∀ {k : Nat}, k ∉ ks → τ'.f k = τ.f k := fun h1 => by rw [← hτ, gho_f, lkG_zip_none h1]
  have lent : ∀ i g, i < Bs.length → φ (ks.getD i 0) g → ∃ k B, ks[i]? = some k ∧ τ.f k = some B ∧ φ k g := fun i g hi hg => by
    obtain ⟨k, B, _, h1, _, _, h4⟩ := ks0 hi
    exact ⟨k, B, h1, h4, by rw [gd h1] at hg; exact hg⟩
  have hc : ∀ j A, τ.c j = some A → ∀ g, (γ j).ownBlock = some g → w'.heap[g]? = w.heap[g]? := fun j A hA g hg => ha.frame g ((h.ow j A hA).2.lt g hg) fun i hi hφ => by
    obtain ⟨k, B, _, h2, h3⟩ := lent i g hi hφ
    exact (ht.new k B g h2 h3).2.2.2 j A hA hg
  have hmem : ∀ {k : Nat}, k ∈ ks → ∃ i B B', i < Bs.length ∧ ks[i]? = some k ∧ Bs[i]? = some B ∧ Bs'[i]? = some B' ∧ τ.f k = some B := fun {k} hk => by
    obtain ⟨i, hi⟩ := List.getElem?_of_mem hk
    have hil := (List.getElem?_eq_some_iff.1 hi).1
    obtain ⟨k', B, B', h1, h2, h3, h4⟩ := ks0 (i := i) (by omega)
    rw [hi] at h1; cases h1
    exact ⟨i, B, B', by omega, hi, h2, h3, h4⟩
  have uniq : ∀ {i j k : Nat}, ks[i]? = some k → ks[j]? = some k → i = j := fun {i j k} h1 h2 => by
    have hi := (List.getElem?_eq_some_iff.1 h1).1
    exact (List.getElem?_inj hi hn).1 (h1.trans h2.symm)
  have hgo : Goes τ τ' γ γ := fun k hk => by
    refine ⟨by rw [usd]; exact hk, fun A hA => ⟨A, by rw [cd] at hA; exact hA, rfl, Nat.le_refl _, rfl⟩, rfl, fun B' hB' => ?_⟩
    by_cases hm : k ∈ ks
    · obtain ⟨i, B, B2, hi, h1, h2, h3, h4⟩ := hmem hm
      rw [F1 h1 h3] at hB'; cases hB'
      obtain ⟨_, e2, e3, _⟩ := hs.at' i B _ h2 h3
      exact ⟨B, h4, e2, by omega⟩
    · rw [F2 hm] at hB'
      exact ⟨B', hB', rfl, Nat.le_refl _⟩
  have sslot : ∀ t, τ'.s t = τ.s t ∨ ∃ B', τ'.s t = .fa B' ∧ NoRefL B'.xs := fun t => by
    rw [← hτ, gho_s]
    cases hlk : lkG t (lentGh ks Bs') with
    | none => exact .inl rfl
    | some s =>
      obtain ⟨k, hk, B', hB', e⟩ := lentGh_mem (lkG_mem hlk)
      cases e
      obtain ⟨i, hi⟩ := List.getElem?_of_mem hB'
      have hil := (List.getElem?_eq_some_iff.1 hi).1
      have hlen := hs.len
      exact .inr ⟨B', rfl, (hs.at' i _ B' (List.getElem?_eq_getElem (by omega)) hi).2.2.2⟩
  refine ⟨h.dfr, h.fsz, ha.os.trans h.os, ha.tape.trans h.tape, ha.output.trans h.output, Nat.le_trans h.hsz ha.hsz, fun j hj hX => ?_, Mem.le_trans h.m0 ha.le, ha.mw, fun a v hav => ?_, fun t => ?_, fun j A hA => ?_, fun j j' A1 A2 g h1 h2 => ?_, fun j v hj => ?_, h.nb, ⟨fun k g => (k ∉ ks ∧ φ k g) ∨ ∃ i, ks[i]? = some k ∧ φ' i g, fun k B' hB' => ?_, fun k B' g hB' hg => ?_, fun k k' B1 B2 g h1 h2 g1 g2 => ?_⟩⟩
  · rw [ha.frame j (Nat.lt_of_lt_of_le hj h.hsz) fun i hi hφ => ?_]
    · exact h.frame j hj hX
    · obtain ⟨k, B, _, h2, h3⟩ := lent i j hi hφ
      rcases (ht.new k B j h2 h3).2.1 with h4 | h4
      · omega
      · exact hX h4
  · rcases ha.mn a v hav with h1 | h1
    · exact h.mn a v h1
    · exact .inr (.inl (Nat.le_trans h.hsz h1))
  · rcases sslot t with e | ⟨B', e, hnr⟩
    · rw [e]; exact (h.slots t).goes ha.le hgo
    · rw [e]
      intro k m hk
      have := hnr _ hk
      cases this
  · rw [cd] at hA
    obtain ⟨h1, h2⟩ := h.ow j A hA
    rw [usd, shd]
    refine ⟨h1, h2.keep ha.le (hc j A hA) (fun g hg off sp u hu => ?_) id⟩
    rcases ha.mn _ u hu with h3 | h3
    · exact h3
    · have := h2.lt g hg
      simp only at h3
      omega
  · rw [cd] at h1 h2
    exact h.di j j' A1 A2 g h1 h2
  · obtain ⟨p1, p2, p3, p4⟩ := h.pin j v hj
    refine ⟨p1, p2, fun A hA => p3 A (by rw [cd] at hA; exact hA), fun B' hB' => ?_⟩
    by_cases hm : j ∈ ks
    · obtain ⟨i, B, _, _, _, _, _, h4⟩ := hmem hm
      exact p4 B h4
    · rw [F2 hm] at hB'; exact p4 B' hB'
  · by_cases hm : k ∈ ks
    · obtain ⟨i, B, B2, hi, h1, h2, h3, h4⟩ := hmem hm
      rw [F1 h1 h3] at hB'; cases hB'
      obtain ⟨a, b, _⟩ := ht.row k B h4
      rw [usd, cd]
      refine ⟨a, b, ?_⟩
      have hr := ha.lent.row i B' h3
      simp only [gd h1] at hr
      exact (hr.anyRef (hs.at' i B B' h2 h3).2.2.2).wide fun g hg => .inr ⟨i, h1, hg⟩
    · rw [F2 hm] at hB'
      obtain ⟨a, b, c⟩ := ht.row k B' hB'
      rw [usd, cd]
      refine ⟨a, b, (c.keep ha.le (fun _ h => ⟨h, rfl⟩) fun g hg => ha.frame g (ht.new k B' g hB' hg).1 fun i hi hφ => ?_).wide fun g hg => .inl ⟨hm, hg⟩⟩
      obtain ⟨k', B, h1, h2, h3⟩ := lent i g hi hφ
      exact hm (by rw [ht.dis k k' B' B g hB' h2 hg h3]; exact List.mem_of_getElem? h1)
  · rw [cd]
    rcases hg with ⟨hm, hg⟩ | ⟨i, h1, hg⟩
    · rw [F2 hm] at hB'
      obtain ⟨a, b, c, d⟩ := ht.new k B' g hB' hg
      refine ⟨Nat.lt_of_lt_of_le a ha.hsz, b, fun off sp => ?_, d⟩
      cases hmm : M' ⟨g, off, sp⟩ with
      | none => rfl
      | some u =>
        rcases ha.mn _ u hmm with h3 | h3
        · rw [c] at h3; cases h3
        · simp only at h3; omega
    · have hil := (List.getElem?_eq_some_iff.1 h1).1
      obtain ⟨a, b⟩ := ha.lent.new i g (by omega) hg
      rcases ha.blk i g (by omega) hg with ⟨j, hj, hφ⟩ | hge
      · obtain ⟨k', B, _, h2, h3⟩ := lent j g hj hφ
        obtain ⟨_, c, _, d⟩ := ht.new k' B g h2 h3
        exact ⟨a, c, b, d⟩
      · refine ⟨a, .inl (Nat.le_trans h.hsz hge), b, fun j A hA e => ?_⟩
        have := (h.ow j A hA).2.lt g e
        omega
  · rcases g1 with ⟨m1, g1⟩ | ⟨i, i1, g1⟩
    · rw [F2 m1] at h1
      rcases g2 with ⟨m2, g2⟩ | ⟨j, i2, g2⟩
      · rw [F2 m2] at h2
        exact ht.dis k k' B1 B2 g h1 h2 g1 g2
      · exfalso
        have hjl := (List.getElem?_eq_some_iff.1 i2).1
        rcases ha.blk j g (by omega) g2 with ⟨j', hj', hφ⟩ | hge
        · obtain ⟨k2, B, e1, e2, e3⟩ := lent j' g hj' hφ
          exact m1 (by rw [ht.dis k k2 B1 B g h1 e2 g1 e3]; exact List.mem_of_getElem? e1)
        · have := (ht.new k B1 g h1 g1).1
          omega
    · have hil := (List.getElem?_eq_some_iff.1 i1).1
      rcases g2 with ⟨m2, g2⟩ | ⟨j, i2, g2⟩
      · exfalso
        rw [F2 m2] at h2
        rcases ha.blk i g (by omega) g1 with ⟨j', hj', hφ⟩ | hge
        · obtain ⟨k2, B, e1, e2, e3⟩ := lent j' g hj' hφ
          exact m2 (by rw [ht.dis k' k2 B2 B g h2 e2 g2 e3]; exact List.mem_of_getElem? e1)
        · have := (ht.new k' B2 g h2 g2).1
          omega
      · have hjl := (List.getElem?_eq_some_iff.1 i2).1
        have e := ha.lent.dis i j g (by rw [hs.len]; omega) (by rw [hs.len]; omega) g1 g2
        rw [e, i2] at i1
        exact (Option.some.inj i1).symm

/-- An argument of a call to which the arrays ks are lent. -/
inductive ToTC (ks : List Nat) (Bs : List Arr) : D → D → Prop
  | sc (v : Value) : ToTC ks Bs (.sc v) (.sc v)
  | sl (xs : List D) : ToTC ks Bs (.sl xs) (.sl xs)
  | ref (k m i : Nat) (B : Arr) (hi : ks[i]? = some k) (hB : Bs[i]? = some B) : ToTC ks Bs (.ref k m) (.ref (100000 + i) m)
inductive ToT (ks : List Nat) (Bs : List Arr) : S → S → Prop
  | d (x : D) : ToT ks Bs (.d x) (.d x)
  | fn (f : FuncId) : ToT ks Bs (.fn f) (.fn f)
  | fv (k m i : Nat) (B : Arr) (hi : ks[i]? = some k) (hB : Bs[i]? = some B) : ToT ks Bs (.fv k m) (.fv (100000 + i) m)
  | dr (fs gs : List D) (hl : gs.length = fs.length) (h : ∀ (j : Nat) (d g : D), fs[j]? = some d → gs[j]? = some g → ToTC ks Bs d g) : ToT ks Bs (.dr fs) (.dr gs)
theorem lentAb_us {Bs : List Arr} {i : Nat} {B : Arr} (h : Bs[i]? = some B) : (lentAb Bs).us (100000 + i) = true := by
  have := (List.getElem?_eq_some_iff.1 h).1
  simp [lentAb]; omega
theorem ToTC.rep {ks : List Nat} {Bs : List Arr} {d g : D} (h : ToTC ks Bs d g) {us : Nat → Bool} {v : Value} (hc : d.isCell = true ∧ RepR M us γ d v) : g.isCell = true ∧ RepR M (lentAb Bs).us (fun k => γ (ks.getD (k - 100000) 0)) g v := by
  cases h with
  | sc v => exact ⟨rfl, hc.2⟩
  | sl xs => exact ⟨rfl, hc.2⟩
  | ref k m i B hi hB =>
    obtain ⟨_, _, hl, e⟩ := hc
    refine ⟨rfl, lentAb_us hB, hl, ?_⟩
    have : 100000 + i - 100000 = i := by omega
    simp only [this]
    rw [e]; simp [hi]
theorem ToT.rep {ks : List Nat} {Bs : List Arr} {s t : S} (h : ToT ks Bs s t) (hf : ∀ (i k : Nat) (B : Arr), ks[i]? = some k → Bs[i]? = some B → τ.f k = some B) {v : Value} (hv : RepS M τ γ s v) : RepS M (lentAb Bs) (fun k => γ (ks.getD (k - 100000) 0)) t v := by
  cases h with
  | d x => exact hv
  | fn f => exact hv
  | fv k m i B hi hB =>
    obtain ⟨⟨_, hl⟩, h1⟩ := hv
    refine ⟨⟨lentAb_us hB, hl⟩, fun B' hB' => ?_⟩
    have e0 : 100000 + i - 100000 = i := by omega
    rw [lentAb_f, if_pos (by omega), e0, hB] at hB'
    cases hB'
    obtain ⟨a, b⟩ := h1 B (hf i k B hi hB)
    refine ⟨a, ?_⟩
    simp only [e0]
    rw [b]; simp [hi]
  | dr fs gs hl hh =>
    obtain ⟨cs, e, hcl, hcells⟩ := hv
    refine ⟨cs, e, by omega, fun j g hg => ?_⟩
    have hj := (List.getElem?_eq_some_iff.1 hg).1
    have hd : fs[j]? = some (fs[j]'(by omega)) := List.getElem?_eq_getElem _
    exact (hh j _ g hd hg).rep (hcells j _ hd)

theorem Seen.tcall {o : Oper} {fx : Operand} {args : Array Operand} {tys : Array TypeId} {f : FuncId} {as : List S} {ks : List Nat} {Bs Bs' : List Arr} {r : Value} (ho : o.op = .call { callee := .value fx, args, argTypes := tys }) (hf : τ.val fx = .fn f) (hlen : as.length = args.toList.length)
    (hx : ∀ (j : Nat) (x : Operand) (s : S), args.toList[j]? = some x → as[j]? = some s → ToT ks Bs (τ.val x) s) (hn : ks.Nodup) (hks : ∀ k ∈ ks, Refs o τ k) (hl : Bs.length = ks.length) (hB : ∀ (i k : Nat) (B : Arr), ks[i]? = some k → Bs[i]? = some B → τ.f k = some B) (hnr : ∀ B ∈ Bs, NoRefL B.xs)
    (hc : TContract P f as Bs Bs' r) : Seen P true o τ { s := .d (.sc r), gh := lentGh ks Bs' } := by
  have hm := args_mem ho
  have hfx : fx ∈ o.op.operands := by rw [ho]; simp [Op.operands, Call.operands]
  refine ⟨fun h => (by cases h), fun k h => (by cases h), fun k A h => (by cases h), fun k h => (by simp at h), fun k A h => (by cases h), fun k h => (by simp at h), fun p hp => ?_, fun k hk => ?_, fun τ0 hlk => ?_⟩
  · obtain ⟨k, hk, B, _, rfl⟩ := lentGh_mem hp
    exact ⟨k, rfl, .inl (hks k hk)⟩
  · exfalso
    rcases hk with hk | ⟨p, hp, hk⟩
    · exact hk
    · obtain ⟨k', hk', B, hBm, rfl⟩ := lentGh_mem hp
      obtain ⟨i, hi⟩ := List.getElem?_of_mem hBm
      have hil := (List.getElem?_eq_some_iff.1 hi).1
      have hln := hc.same.len
      have hnr := (hc.same.at' i _ B (List.getElem?_eq_getElem (by omega)) hi).2.2.2
      obtain ⟨x, hx, hj⟩ := hk
      have := hnr x hx
      cases this <;> exact hj
  · intro X w0 M0 n ac w M γ hd h Q
    obtain ⟨φ, ht⟩ := h.tr
    have hfv : ac.eval fx = .func (.func f) #[] #[] := by
      have := h.val fx
      rw [hlk.v fx hfx, hf] at this
      exact this
    have hB0 : ∀ (i k : Nat) (B : Arr), ks[i]? = some k → Bs[i]? = some B → τ0.f k = some B := fun i k B h1 h2 => by
      rw [(hlk.c k (hks k (List.mem_of_getElem? h1))).2]; exact hB i k B h1 h2
    have ks0 : ∀ {i : Nat}, i < Bs.length → ∃ k B, ks[i]? = some k ∧ Bs[i]? = some B ∧ τ0.f k = some B ∧ ks.getD i 0 = k := fun {i} hi => by
      have h1 : ks[i]? = some (ks[i]'(by omega)) := List.getElem?_eq_getElem _
      have h2 : Bs[i]? = some (Bs[i]'hi) := List.getElem?_eq_getElem _
      exact ⟨_, _, h1, h2, hB0 i _ _ h1 h2, by simp [h1]⟩
    have hlent : LentT w M Bs (fun i => γ (ks.getD i 0)) (fun i => φ (ks.getD i 0)) := by
      refine ⟨fun i B hi => ?_, fun i g hi hg => ?_, fun i j g hi hj h1 h2 => ?_⟩
      · obtain ⟨k, B', h1, h2, h3, h4⟩ := ks0 (List.getElem?_eq_some_iff.1 hi).1
        rw [hi] at h2; cases h2
        simp only [h4]
        exact (ht.row k B h3).2.2.anyRef (hnr B (List.mem_of_getElem? hi))
      · obtain ⟨k, B', h1, h2, h3, h4⟩ := ks0 hi
        simp only [h4] at hg
        obtain ⟨a, _, c, _⟩ := ht.new k B' g h3 hg
        exact ⟨a, c⟩
      · obtain ⟨k, B1, a1, a2, a3, a4⟩ := ks0 hi
        obtain ⟨k', B2, b1, b2, b3, b4⟩ := ks0 hj
        simp only [a4] at h1
        simp only [b4] at h2
        have e := ht.dis k k' B1 B2 g a3 b3 h1 h2
        subst e
        exact (List.getElem?_inj (List.getElem?_eq_some_iff.1 a1).1 hn).1 (a1.trans b1.symm)
    unfold Oper.wp
    rw [run_call ho hfv hc.ent]
    refine (hc.run w M _ _ (args.map ac.eval) h.mw hlent (by simp [hlen]) fun j s hs => ?_).mono fun e w' ⟨v, M', φ', e1, ha, hr⟩ => ?_
    · have hj := (List.getElem?_eq_some_iff.1 hs).1
      have hjl : j < args.toList.length := by omega
      have hy : args.toList[j]? = some args.toList[j] := List.getElem?_eq_getElem hjl
      have hmem := hm _ (List.mem_of_getElem? hy)
      have e2 : (args.map ac.eval).getD j undef = ac.eval args.toList[j] := by
        have : (args.map ac.eval)[j]? = some (ac.eval args.toList[j]) := by
          rw [Array.getElem?_map, ← Array.getElem?_toList, hy]; rfl
        simp [this]
      rw [e2]
      have hv := h.val args.toList[j]
      rw [hlk.v _ hmem] at hv
      exact (hx j _ s hy hs).rep hB0 hv
    · subst e1
      exact Sim.of (M := M') (γ := γ) ((h.tlent ht hn hl hB0 hc.same ha).put hd hr)
/-! ### A tree array becomes plain data for good -/
theorem SimW.tfrz (h : SimW X w0 M0 n τ ac w M γ) {k : Nat} {B : Arr} (hB : τ.f k = some B) (hn : CleanL B.xs) :
    ∃ M', SimW X w0 M0 n (τ.gho [(1000000 + k, .junk)] []) ac w M' γ ∧ Mem.le M M' ∧ Rep M' (.sl (eraseL B.xs)) (γ k) := by
  classical
  obtain ⟨φ, ht⟩ := h.tr
  let M' : Mem := fun a => if φ k a.block then w.cell? a else M a
  have hno : ∀ g, φ k g → ∀ off sp, M ⟨g, off, sp⟩ = none := fun g hg => (ht.new k B g hB hg).2.2.1
  have hle : Mem.le M M' := fun a v hav => by
    show (if _ then _ else _) = _
    split
    · rename_i hg
      have := hno a.block hg a.off a.spot
      rw [show (⟨a.block, a.off, a.spot⟩ : Addr) = a from rfl, hav] at this
      cases this
    · exact hav
  have hrep : Rep M' (.sl (eraseL B.xs)) (γ k) := by
    have := (ht.row k B hB).2.2.eraseRep hle (.own _ _ _ hn) fun g hg off u hu => by
      show (if _ then _ else _) = _
      rw [if_pos hg]; exact hu
    simpa [erase] using this
  generalize hτ : τ.gho [(1000000 + k, .junk)] [] = τ'
  have fs : ∀ j, τ'.f j = if j = k then none else τ.f j := fun j => by
    rw [← hτ, gho_f]
    simp only [lkG]
    by_cases e : j = k
    · rw [if_pos (by omega), if_pos e]
    · rw [if_neg (by omega), if_neg e]
  have ec : τ'.c = τ.c := by rw [← hτ, gho_c]
  have esh : τ'.sh = τ.sh := by rw [← hτ, gho_sh]
  have eus : τ'.us = τ.us := by rw [← hτ]; funext j; rw [gho_us]; simp
  have hgo : Goes τ τ' γ γ := .of (fun j B' hB' => by rw [fs] at hB'; split at hB' <;> first | cases hB' | exact hB') (fun _ _ => rfl) fun j hj => ⟨by rw [eus]; exact hj, fun A' hA' => ⟨A', by rw [← ec]; exact hA', rfl, Nat.le_refl _⟩⟩
  have hout : ∀ g, ¬ φ k g → ∀ off sp, M' ⟨g, off, sp⟩ = M ⟨g, off, sp⟩ := fun g hg off sp => by
    show (if _ then _ else _) = _
    rw [if_neg hg]
  refine ⟨M', ⟨h.dfr, h.fsz, h.os, h.tape, h.output, h.hsz, h.frame, Mem.le_trans h.m0 hle, fun a v hav => ?_, fun a v hav => ?_, fun t => ?_, fun j A hA => ?_, fun j j' A A' g h1 h2 => h.di j j' A A' g (by rw [← ec]; exact h1) (by rw [← ec]; exact h2), fun j v hj => ?_, h.nb, φ, fun j B' hB' => ?_, fun j B' g hB' hg => ?_, fun j j' B1 B2 g h1 h2 => ?_⟩, hle, hrep⟩
  · change (if _ then _ else _) = _ at hav
    split at hav
    · exact hav
    · exact h.mw a v hav
  · change (if _ then _ else _) = _ at hav
    split at hav
    · rename_i hg
      exact .inr ((ht.new k B a.block hB hg).2.1)
    · exact h.mn a v hav
  · have h1 := (h.slots t).goes hle hgo
    rw [← hτ, gho_s]
    simp only [lkG]
    split
    · trivial
    · rw [hτ]; exact h1
  · rw [ec] at hA
    obtain ⟨h1, h2⟩ := h.ow j A hA
    rw [eus, esh]
    refine ⟨h1, h2.keep hle (fun _ _ => rfl) (fun g hg off sp u hu => ?_) id⟩
    rw [hout g (fun hk => (ht.new k B g hB hk).2.2.2 j A hA hg)] at hu
    exact hu
  · obtain ⟨p1, p2, p3, p4⟩ := h.pin j v hj
    refine ⟨p1, p2, fun A hA => p3 A (by rw [← ec]; exact hA), fun B' hB' => ?_⟩
    rw [fs] at hB'
    split at hB'
    · cases hB'
    · exact p4 B' hB'
  · rw [fs] at hB'
    split at hB'
    · cases hB'
    · obtain ⟨h1, h2, h3⟩ := ht.row j B' hB'
      rw [eus, ec]
      exact ⟨h1, h2, h3.keep hle (fun _ h => ⟨h, rfl⟩) fun _ _ => rfl⟩
  · rw [fs] at hB'
    split at hB'
    · cases hB'
    · rename_i hjk
      obtain ⟨a, b, c, d⟩ := ht.new j B' g hB' hg
      refine ⟨a, b, fun off sp => ?_, fun i A hA => d i A (by rw [← ec]; exact hA)⟩
      rw [hout g (fun hk => hjk (ht.dis j k B' B g hB' hB hg hk))]
      exact c off sp
  · rw [fs] at h1 h2
    split at h1
    · cases h1
    · split at h2
      · cases h2
      · exact ht.dis j j' B1 B2 g h1 h2

/-- What a slot holds, said otherwise. -/
theorem SimW.slot (h : SimW X w0 M0 n τ ac w M γ) {t : Nat} {s : S} (h1 : ∀ B, τ.s t ≠ .fa B) (h2 : ∀ B, s ≠ .fa B) (hs : RepS M τ γ s (ac.tmps.getD t undef)) :
    SimW X w0 M0 n { τ with s := fun j => if j = t then s else τ.s j } ac w M γ := by
  have hf : ({ τ with s := fun j => if j = t then s else τ.s j } : Ab).f = τ.f := by
    funext j
    unfold Ab.f
    dsimp only
    by_cases e : 1000000 + j = t
    · rw [if_pos e, e]
      cases s <;> first
        | exact absurd rfl (h2 _)
        | (cases hq : τ.s t <;> first | rfl | exact absurd hq (h1 _))
    · rw [if_neg e]
  have hgo : Goes τ { τ with s := fun j => if j = t then s else τ.s j } γ γ := .of (fun j B hB => by rw [hf] at hB; exact hB) (fun _ _ => rfl) fun j hj => ⟨hj, fun A hA => ⟨A, hA, rfl, Nat.le_refl _⟩⟩
  refine ⟨h.dfr, h.fsz, h.os, h.tape, h.output, h.hsz, h.frame, h.m0, h.mw, h.mn, fun j => ?_, h.ow, h.di, fun j v hj => by rw [hf]; exact h.pin j v hj, h.nb, by rw [hf]; exact h.tr⟩
  show RepS M _ γ (if j = t then s else τ.s j) _
  split
  · rename_i e; rw [e]; exact hs.goes (Mem.le_refl M) hgo
  · exact (h.slots j).goes (Mem.le_refl M) hgo
/-- A call to which an own array is given away, in a region whose order is drawn. -/
theorem Seen.mcall {o : Oper} {args : Array Operand} {tys : Array TypeId} {f : FuncId} {as : List A2} {ks : List Nat} {k d : Nat} {A B : Arr} {rest : List Value} (ho : o.op = .call { callee := .value (.func f), args, argTypes := tys })
    (hx : ToLs τ k (some A) (args.toList.map τ.val) as ks) (hk : ∃ p ∈ args.toList, refS (τ.val p) k) (hA : τ.c k = some A) (hsh : (τ.shares ks).sh k = false) (hd : o.dst = some d) (hu : τ.us d = false)
    (hc : MContract P f as A B rest) : Seen P true o τ { s := mvS d B.xs.length rest, sh := ks, al := some (d, B), ki := some k } := by
  have hm := args_mem ho
  obtain ⟨p0, hp0, hr0⟩ := hk
  have hk0 : Refs o τ k := ⟨p0, hm p0 hp0, hr0⟩
  have hksr : ∀ j ∈ ks, Refs o τ j := fun j hj => by
    obtain ⟨s0, hs0, h1⟩ := hx.keys j hj
    obtain ⟨p, hp, rfl⟩ := List.mem_map.1 hs0
    exact ⟨p, hm p hp, h1⟩
  refine ⟨fun h => (by cases h), fun j h => (by cases h; exact hk0), fun j A h => (by cases h), hksr, fun j A' h => (by cases h; exact ⟨hd, hu⟩), fun j h => (by simp at h), fun p h => (by simp at h), fun j hj => ?_, fun τ0 hl => ?_⟩
  · have hj1 : refS (mvS d B.xs.length rest) j := by
      rcases hj with hj | ⟨p, hp, _⟩
      · exact hj
      · simp at hp
    have : j = d := by
      cases rest with
      | nil => exact hj1
      | cons r0 rest =>
        obtain ⟨t, ht, hr⟩ := hj1
        rcases List.mem_cons.1 ht with rfl | ht
        · exact hr
        · obtain ⟨y, _, rfl⟩ := List.mem_map.1 ht; exact hr.elim
    exact .inr (.inr ⟨B, by rw [this]⟩)
  · intro X w0 M0 n ac w M γ hdn h Q
    have e : args.toList.map τ0.val = args.toList.map τ.val := List.map_congr_left fun p hp => hl.v p (hm p hp)
    have hx0 : ToLs τ0 k (some A) (args.toList.map τ0.val) as ks := by
      rw [e]
      exact hx.locl fun s hs j hj => by obtain ⟨p, hp, rfl⟩ := List.mem_map.1 hs; exact (hl.c j ⟨p, hm p hp, hj⟩).1
    have hA0 : τ0.c k = some A := by rw [(hl.c k hk0).1]; exact hA
    have hsh0 : (τ0.shares ks).sh k = false := by rw [shares_sh] at hsh ⊢; rw [hl.sh rfl k hk0]; exact hsh
    have hu0 : τ0.us d = false := (hl.u d hd d (.inl rfl) hu).1
    have hs := DEff.sound (T := []) hdn (.mcall (E := fun e => e = { s := mvS d B.xs.length rest, sh := ks, al := some (d, B), ki := some k }) (.func f) args tys f as ks k d A B rest ho rfl hx0 hA0 hsh0 hd hu0 hc rfl) h Q
    have ee : (fun ac' w' => ∃ e, e = ({ s := mvS d B.xs.length rest, sh := ks, al := some (d, B), ki := some k } : Ef) ∧ Sim X w0 M0 n (τ0.eff o.dst e) ac' w') = (fun ac' w' => Sim X w0 M0 n (τ0.eff o.dst { s := mvS d B.xs.length rest, sh := ks, al := some (d, B), ki := some k }) ac' w') := by
      funext ac' w'
      exact propext ⟨fun ⟨e, he, h⟩ => he ▸ h, fun h => ⟨_, rfl, h⟩⟩
    rw [ee] at hs
    exact hs
end
end Go.DL

namespace Go.DL
open Go.RowKit

/-! ### The state as lists -/
structure St where
  s : List (Nat × S)
  c : List (Nat × Option Arr)
  sh : List Nat

def lkS (t : Nat) : List (Nat × S) → S
  | [] => .junk
  | (j, s) :: r => match Nat.beq t j with
    | true => s
    | false => lkS t r
def lkC (k : Nat) : List (Nat × Option Arr) → Option (Option Arr)
  | [] => none
  | (j, a) :: r => match Nat.beq k j with
    | true => some a
    | false => lkC k r
def memB (k : Nat) : List Nat → Bool
  | [] => false
  | j :: r => match Nat.beq k j with
    | true => true
    | false => memB k r
def tyOf (t : Nat) : Tys → Option Ty
  | [] => none
  | (j, ty) :: r => match Nat.beq t j with
    | true => some ty
    | false => tyOf t r

def St.ab (σ : St) : Ab :=
  { s := fun t => lkS t σ.s, c := fun k => match lkC k σ.c with | some (some A) => some A | _ => none, sh := fun k => memB k σ.sh, us := fun k => (lkC k σ.c).isSome }

theorem beq_iff (a b : Nat) : Nat.beq a b = true ↔ a = b := ⟨Nat.eq_of_beq_eq_true, fun h => by subst h; exact Nat.beq_refl a⟩
theorem beq_not (a b : Nat) : Nat.beq a b = false ↔ a ≠ b := by
  rw [← Bool.not_eq_true, beq_iff]

theorem lkS_cons (t j : Nat) (s : S) (r : List (Nat × S)) : lkS t ((j, s) :: r) = if t = j then s else lkS t r := by
  simp only [lkS]
  cases h : Nat.beq t j with
  | true => rw [if_pos ((beq_iff t j).1 h)]
  | false => rw [if_neg ((beq_not t j).1 h)]
theorem lkC_cons (t j : Nat) (s : Option Arr) (r : List (Nat × Option Arr)) : lkC t ((j, s) :: r) = if t = j then some s else lkC t r := by
  simp only [lkC]
  cases h : Nat.beq t j with
  | true => rw [if_pos ((beq_iff t j).1 h)]
  | false => rw [if_neg ((beq_not t j).1 h)]
theorem memB_iff (k : Nat) (l : List Nat) : memB k l = l.contains k := by
  induction l with
  | nil => rfl
  | cons j r ih =>
    simp only [memB, ih]
    cases h : Nat.beq k j with
    | true => simp [(beq_iff k j).1 h]
    | false => simp [(beq_not k j).1 h]
theorem tyOf_mem {t : Nat} {T : Tys} {ty : Ty} (h : tyOf t T = some ty) : (t, ty) ∈ T := by
  induction T with
  | nil => cases h
  | cons p r ih =>
    obtain ⟨j, a⟩ := p
    simp only [tyOf] at h
    cases hb : Nat.beq t j with
    | true =>
      rw [hb] at h
      have e : a = ty := by simpa using h
      rw [(beq_iff t j).1 hb, e]
      exact List.mem_cons_self
    | false => rw [hb] at h; exact List.mem_cons_of_mem _ (ih h)

def valS (σ : St) : Operand → S
  | .tmp t => lkS t σ.s
  | .const v => constS v
  | .global _ => .junk
  | .func f => .fn f

theorem valS_ab (σ : St) (x : Operand) : valS σ x = σ.ab.val x := by cases x <;> rfl

/-! ### Branches, obligations -/
def brM (b : Bool) (A B : Prop) : Prop :=
  match b with
  | true => A
  | false => B
theorem brM_intro {b : Bool} {A B : Prop} (h1 : b = true → A) (h2 : b = false → B) : brM b A B := by
  cases b
  · exact h2 rfl
  · exact h1 rfl

@[irreducible] def ltB (a b : Int) : Bool := decide (a < b)
@[irreducible] def leB (a b : Int) : Bool := decide (a ≤ b)
@[irreducible] def eqB (a b : Int) : Bool := a == b
@[irreducible] def strEq (a b : ByteArray) : Bool := a.toList == b.toList
@[irreducible] def strLt (a b : ByteArray) : Bool := Op.bytesLess a.toList b.toList
@[irreducible] def bEq (a b : Bool) : Bool := a == b

structure WrK (k : IntKind) (n : Int) (K : Int → Prop) : Prop where
  out : K (k.wrap n)
structure IxK (xs : List D) (j : Int) (K : D → Prop) : Prop where
  out : 0 ≤ j ∧ ∃ y, xs[j.toNat]? = some y ∧ K y
structure IxA (j : Int) (m : Nat) (K : Nat → Prop) : Prop where
  out : ∃ i : Nat, j = i ∧ i < m ∧ K i
structure StrK (s : ByteArray) (j : Int) (K : UInt8 → Prop) : Prop where
  out : 0 ≤ j ∧ ∃ b, s[j.toNat]? = some b ∧ K b
structure CallK (P : Program) (f : FuncId) (as : List A1) (K : Res → Prop) : Prop where
  out : ∃ r, Contract P f as r ∧ K r
structure LCallK (P : Program) (f : FuncId) (as : List A2) (A : Arr) (K : Res → List D → Prop) : Prop where
  out : ∃ r xs, LContract P f as (some A) (fun r' xs' => r' = r ∧ xs' = xs) ∧ K r xs
structure DCallK (P : Program) (f : FuncId) (as : List A2) (A : Option Arr) (K : Res → List D → Prop) : Prop where
  out : ∃ R, LContract P f as A R ∧ ∀ r xs, R r xs → K r xs
structure MCallK (P : Program) (f : FuncId) (as : List A2) (A : Arr) (K : Arr → List Value → Prop) : Prop where
  out : ∃ B rest, MContract P f as A B rest ∧ K B rest
structure NeedK (p K : Prop) : Prop where
  out : p ∧ K
structure MkK (a b : Int) (K : Nat → Prop) : Prop where
  out : ∃ m : Nat, a = m ∧ b = m ∧ m ≤ 34359738368 ∧ K m
structure AppK (xs : List D) (m : Nat) (ys : List D) (w : Nat) (K : Nat → List D → Prop) : Prop where
  out : ∃ n xs', n = m + ys.length ∧ xs' = xs.take m ++ ys ∧ n ≤ 34359738368 ∧ (∀ y ∈ ys, y.width = w) ∧ K n xs'
structure SlK (xs : List D) (w : Nat) (lo hi : Option Int) (K : List D → Prop) : Prop where
  out : ∃ l h : Nat, (match lo with | some a => a = l | none => l = 0) ∧ (match hi with | some a => a = h | none => h = xs.length) ∧ l ≤ h ∧ h ≤ xs.length ∧ (∀ y ∈ xs, y.width = w) ∧ ∃ zs, zs = (xs.take h).drop l ∧ K zs
structure SlA (m : Nat) (hi : Option Int) (K : Nat → Prop) : Prop where
  out : ∃ h : Nat, (match hi with | some a => a = h | none => h = m) ∧ h ≤ m ∧ K h

structure SlW (m : Nat) (a : Int) (hi : Option Int) (K : Nat → Nat → Prop) : Prop where
  out : ∃ l h : Nat, a = l ∧ (match hi with | some b => b = h | none => h = m) ∧ l ≤ h ∧ h ≤ m ∧ K l h
theorem SlW_intro {m : Nat} {a : Int} {hi : Option Int} {K : Nat → Nat → Prop} (l h : Nat) (h1 : a = l) (h2 : match hi with | some b => b = h | none => h = m) (h3 : l ≤ h) (h4 : h ≤ m) (hK : K l h) : SlW m a hi K := by refine ⟨?_⟩; exact ⟨l, h, h1, h2, h3, h4, hK⟩
structure WinK (xs : List D) (l m : Nat) (K : List D → Prop) : Prop where
  out : ∃ zs, zs = (xs.take m).drop l ∧ K zs
theorem WinK_intro {xs : List D} {l m : Nat} {K : List D → Prop} {zs : List D} (h : zs = (xs.take m).drop l) (hK : K zs) : WinK xs l m K := by refine ⟨?_⟩; exact ⟨zs, h, hK⟩
/-- the i-th of a list -/
def getK {α : Type} : List α → Nat → (α → Prop) → Prop
  | x :: _, 0, K => K x
  | _ :: r, i + 1, K => getK r i K
  | [], _, _ => False
theorem getK_iff {α : Type} {xs : List α} {i : Nat} {K : α → Prop} : getK xs i K ↔ ∃ y, xs[i]? = some y ∧ K y := by
  induction xs generalizing i with
  | nil => simp [getK]
  | cons x r ih =>
    cases i with
    | zero => simp [getK]
    | succ i => simpa [getK] using ih
theorem getK_intro {α : Type} {xs : List α} {i : Nat} {K : α → Prop} {y : α} (h : xs[i]? = some y) (hK : K y) : getK xs i K := getK_iff.2 ⟨y, h, hK⟩

def setK {α : Type} : List α → Nat → α → (List α → Prop) → Prop
  | _ :: r, 0, y, K => K (y :: r)
  | x :: r, i + 1, y, K => setK r i y (fun r' => K (x :: r'))
  | [], _, _, _ => False
theorem setK_iff {α : Type} {xs : List α} {i : Nat} {y : α} {K : List α → Prop} : setK xs i y K ↔ i < xs.length ∧ K (xs.set i y) := by
  induction xs generalizing i K with
  | nil => simp [setK]
  | cons x r ih =>
    cases i with
    | zero => simp [setK]
    | succ i => simp [setK, ih]
theorem setK_intro {α : Type} {xs : List α} {i : Nat} {y : α} {K : List α → Prop} (h : i < xs.length) {xs' : List α} (he : xs' = xs.set i y) (hK : K xs') : setK xs i y K := setK_iff.2 ⟨h, he ▸ hK⟩

def takeK {α : Type} : Nat → List α → (List α → Prop) → Prop
  | 0, _, K => K []
  | m + 1, x :: r, K => takeK m r (fun r' => K (x :: r'))
  | _ + 1, [], K => K []
theorem takeK_iff {α : Type} {m : Nat} {xs : List α} {K : List α → Prop} : takeK m xs K ↔ K (xs.take m) := by
  induction m generalizing xs K with
  | zero => simp [takeK]
  | succ m ih =>
    cases xs with
    | nil => simp [takeK]
    | cons x r => simp [takeK, ih]
theorem takeK_intro {α : Type} {m : Nat} {xs : List α} {K : List α → Prop} {xs' : List α} (h : xs' = xs.take m) (hK : K xs') : takeK m xs K := takeK_iff.2 (h ▸ hK)
theorem takeK_full {α : Type} {m : Nat} {xs : List α} {K : List α → Prop} (h : m = xs.length) (hK : K xs) : takeK m xs K := takeK_intro (by rw [h, List.take_length]) hK

theorem WrK_i64 {n : Int} {K : Int → Prop} (h1 : -9223372036854775808 ≤ n) (h2 : n ≤ 9223372036854775807) (hK : K n) : WrK .i64 n K := by
  refine ⟨?_⟩
  rw [IntKind.wrap_i64]
  have : (n + 9223372036854775808) % 18446744073709551616 - 9223372036854775808 = n := by omega
  rw [this]
  exact hK
theorem IxK_intro {xs : List D} {j : Int} {K : D → Prop} (i : Nat) (hj : j = i) {y : D} (h : xs[i]? = some y) (hK : K y) : IxK xs j K := by
  refine ⟨?_⟩
  subst hj
  exact ⟨by omega, y, by simpa using h, hK⟩
theorem IxA_intro {j : Int} {m : Nat} {K : Nat → Prop} (i : Nat) (hj : j = i) (h : i < m) (hK : K i) : IxA j m K := by
  refine ⟨?_⟩; exact ⟨i, hj, h, hK⟩
theorem StrK_intro {s : ByteArray} {j : Int} {K : UInt8 → Prop} (i : Nat) (hj : j = i) {b : UInt8} (h : s[i]? = some b) (hK : K b) : StrK s j K := by
  refine ⟨?_⟩
  subst hj
  exact ⟨by omega, b, by simpa using h, hK⟩
theorem CallK_intro {P : Program} {f : FuncId} {as : List A1} {r : Res} {K : Res → Prop} (h : Contract P f as r) (hK : K r) : CallK P f as K := by refine ⟨?_⟩; exact ⟨r, h, hK⟩
theorem LCallK_intro {P : Program} {f : FuncId} {as : List A2} {A : Arr} {r : Res} {xs : List D} {K : Res → List D → Prop} (h : LContract P f as (some A) (fun r' xs' => r' = r ∧ xs' = xs)) (hK : K r xs) : LCallK P f as A K := by refine ⟨?_⟩; exact ⟨r, xs, h, hK⟩
theorem MCallK_intro {P : Program} {f : FuncId} {as : List A2} {A B : Arr} {rest : List Value} {K : Arr → List Value → Prop} (h : MContract P f as A B rest) (hK : K B rest) : MCallK P f as A K := by refine ⟨?_⟩; exact ⟨B, rest, h, hK⟩
theorem DCallK_intro {P : Program} {f : FuncId} {as : List A2} {A : Option Arr} {R : Res → List D → Prop} {K : Res → List D → Prop} (h : LContract P f as A R) (hK : ∀ r xs, R r xs → K r xs) : DCallK P f as A K := by refine ⟨?_⟩; exact ⟨R, h, hK⟩
theorem WrK_any {k : IntKind} {n : Int} {K : Int → Prop} (hK : K (k.wrap n)) : WrK k n K := ⟨hK⟩
theorem NeedK_intro {p K : Prop} (h : p) (hK : K) : NeedK p K := by refine ⟨?_⟩; exact ⟨h, hK⟩
theorem MkK_intro {a b : Int} {K : Nat → Prop} (m : Nat) (h1 : a = m) (h2 : b = m) (h3 : m ≤ 34359738368) (hK : K m) : MkK a b K := by refine ⟨?_⟩; exact ⟨m, h1, h2, h3, hK⟩
theorem AppK_intro {xs : List D} {m : Nat} {ys : List D} {w : Nat} {K : Nat → List D → Prop} {n : Nat} {xs' : List D} (h1 : n = m + ys.length) (h2 : xs' = xs.take m ++ ys) (h3 : n ≤ 34359738368) (h4 : ∀ y ∈ ys, y.width = w) (hK : K n xs') :
    AppK xs m ys w K := by refine ⟨?_⟩; exact ⟨n, xs', h1, h2, h3, h4, hK⟩
theorem SlK_intro {xs : List D} {w : Nat} {lo hi : Option Int} {K : List D → Prop} (l h : Nat) (h1 : match lo with | some a => a = l | none => l = 0) (h2 : match hi with | some a => a = h | none => h = xs.length) (h3 : l ≤ h) (h4 : h ≤ xs.length)
    (h5 : ∀ y ∈ xs, y.width = w) {zs : List D} (h6 : zs = (xs.take h).drop l) (hK : K zs) : SlK xs w lo hi K := by refine ⟨?_⟩; exact ⟨l, h, h1, h2, h3, h4, h5, zs, h6, hK⟩
theorem SlA_intro {m : Nat} {hi : Option Int} {K : Nat → Prop} (h : Nat) (h1 : match hi with | some a => a = h | none => h = m) (h2 : h ≤ m) (hK : K h) : SlA m hi K := by refine ⟨?_⟩; exact ⟨h, h1, h2, hK⟩

/-! ### The evaluator: one operation -/
def forceS (s : S) (K : S → Prop) : Prop :=
  match s with
  | .junk => K .junk
  | .un => K .un
  | .nil => K .nil
  | .d x => K (.d x)
  | .el x => K (.el x)
  | .av k m => K (.av k m)
  | .ae k i => K (.ae k i)
  | .af k i f => K (.af k i f)
  | .fn f => K (.fn f)
  | .tup xs => K (.tup xs)
  | .fv k m => K (.fv k m)
  | .fe k i => K (.fe k i)
  | .ff k i f => K (.ff k i f)
  | .dr fs => K (.dr fs)
  | .fa B => K (.fa B)
  | .aw k l m => K (.aw k l m)
theorem forceS_eq (s : S) (K : S → Prop) : forceS s K = K s := by cases s <;> rfl

def putS (σ : St) (dst : Option Nat) (s : S) (K : St → Prop) : Prop :=
  match dst, σ with
  | some d, ⟨ss, c, sh⟩ => K ⟨(d, s) :: ss, c, sh⟩
  | none, σ => K σ

def toDS (σ : St) (s : S) (K : D → List Nat → Prop) : Prop :=
  match s with
  | .d x => K x []
  | .nil => K (.sl []) []
  | .av j m => match lkC j σ.c with
    | some (some A) => takeK m A.xs (fun xs => K (.sl xs) [j])
    | _ => False
  | _ => False

def argK (σ : St) (s : S) (K : A1 → List Nat → Prop) : Prop :=
  match s with
  | .fn f => K (.fn f) []
  | .d x => K (.d x) []
  | s => toDS σ s fun x ks => K (.d x) ks
def argsK (σ : St) : List Operand → (List A1 → List Nat → Prop) → Prop
  | [], K => K [] []
  | x :: r, K => argK σ (valS σ x) fun a ks => argsK σ r fun as ks' => K (a :: as) (ks ++ ks')

def partsK (σ : St) : List (Nat × Operand) → (List D → List Nat → Prop) → Prop
  | [], K => K [] []
  | (_, x) :: r, K => toDS σ (valS σ x) fun a ks => partsK σ r fun as ks' => K (a :: as) (ks ++ ks')
def setsK : List (Nat × Operand) → List D → List D → (List D → Prop) → Prop
  | (i, _) :: ps, d :: ds, xs, K => setK xs i d fun xs' => setsK ps ds xs' K
  | [], _, xs, K => K xs
  | _, [], xs, K => K xs

def zeroF (f : F) (K : D → Prop) : Prop :=
  match f with
  | .int => K (.sc (.int .i64 0)) | .bool => K (.sc (.bool false)) | .str => K (.sc (.string ⟨#[]⟩)) | .sl => K (.sl [])
def zerosF : List F → (List D → Prop) → Prop
  | [], K => K []
  | f :: r, K => zeroF f fun d => zerosF r fun ds => K (d :: ds)
def zeroTy (ty : Ty) (K : D → Prop) : Prop :=
  match ty with
  | .int => K (.sc (.int .i64 0)) | .u8 => K (.sc (.int .u8 0)) | .bool => K (.sc (.bool false)) | .str => K (.sc (.string ⟨#[]⟩)) | .sl _ => K (.sl [])
  | .st fs => zerosF fs fun ds => K (.agg ds)

theorem zerosF_eq (fs : List F) (K : List D → Prop) : zerosF fs K = K (fs.map F.zeroD) := by
  induction fs generalizing K with
  | nil => rfl
  | cons f r ih => cases f <;> simp only [zerosF, zeroF, ih] <;> rfl
theorem zeroTy_eq (ty : Ty) (K : D → Prop) : zeroTy ty K = K ty.zeroD := by
  cases ty with
  | st fs => simp only [zeroTy, zerosF_eq]; rfl
  | _ => rfl

def fitK (ty : Ty) (y : D) (K : Prop) : Prop :=
  match ty, y with
  | .st fs, .agg gs => (match Nat.beq fs.length gs.length with | true => K | false => False)
  | .st _, _ => False
  | _, .agg _ => False
  | _, _ => K
theorem fitK_iff {ty : Ty} {y : D} {K : Prop} : fitK ty y K ↔ LoadFit ty y ∧ K := by
  cases ty <;> cases y <;> simp [fitK, LoadFit]
  rename_i fs gs
  cases h : Nat.beq fs.length gs.length with
  | true => simp [(beq_iff _ _).1 h]
  | false => simp [(beq_not _ _).1 h]

def beqK (a b : Nat) (K : Prop) : Prop :=
  match Nat.beq a b with
  | true => K
  | false => False
theorem beqK_iff {a b : Nat} {K : Prop} : beqK a b K ↔ a = b ∧ K := by
  unfold beqK
  cases h : Nat.beq a b with
  | true => simp [(beq_iff _ _).1 h]
  | false => simp [(beq_not _ _).1 h]

/-- equality of structs, field by field -/
def eq1K (f : F) (a b : D) (K : Bool → Prop) : Prop :=
  match f, a, b with
  | .int, .sc (.int .i64 x), .sc (.int .i64 y) => K (eqB x y)
  | .bool, .sc (.bool x), .sc (.bool y) => K (bEq x y)
  | .str, .sc (.string x), .sc (.string y) => K (strEq x y)
  | _, _, _ => False
def eqsK : List F → List D → List D → (Bool → Prop) → Prop
  | [], fs, gs, K => (match fs, gs with | [], [] => K true | _, _ => False)
  | f :: Fs, fs, gs, K => (match fs, gs with
    | a :: fs, b :: gs => eq1K f a b fun r1 => eqsK Fs fs gs fun r => K (r1 && r)
    | _, _ => False)

theorem eq1K_spec {f : F} {a b : D} {K : Bool → Prop} (h : eq1K f a b K) : ∃ r1, K r1 ∧ ∀ {Fs : List F} {fs gs : List D} {r : Bool}, EqFs Fs fs gs r → EqFs (f :: Fs) (a :: fs) (b :: gs) (r1 && r) := by
  unfold eq1K at h
  split at h
  · exact ⟨_, h, fun hr => by unfold eqB; exact .int _ _ hr⟩
  · exact ⟨_, h, fun hr => by unfold bEq; exact .bool _ _ hr⟩
  · exact ⟨_, h, fun hr => by unfold strEq; exact .str _ _ hr⟩
  · exact h.elim

theorem eqsK_spec {Fs : List F} : ∀ {fs gs : List D} {K : Bool → Prop}, eqsK Fs fs gs K → ∃ b, EqFs Fs fs gs b ∧ K b := by
  induction Fs with
  | nil =>
    intro fs gs K h
    cases fs <;> cases gs <;> first | exact ⟨true, .nil, h⟩ | exact h.elim
  | cons f Fs ih =>
    intro fs gs K h
    cases fs with
    | nil => exact h.elim
    | cons a fs =>
      cases gs with
      | nil => exact h.elim
      | cons b gs =>
        obtain ⟨r1, h1, h2⟩ := eq1K_spec (K := fun r1 => eqsK Fs fs gs fun r => K (r1 && r)) h
        obtain ⟨r, hr, hK⟩ := ih h1
        exact ⟨_, h2 hr, hK⟩
end Go.DL

namespace Go.DL
open Go.RowKit

/-- A new array in a slot of its own. -/
def newK (σ : St) (dst : Option Nat) (ks : List Nat) (s : Nat → S) (A : Arr) (K : St → Prop) : Prop :=
  match dst, σ with
  | some d, ⟨ss, c, sh⟩ => (match lkC d c with
    | none => K ⟨(d, s d) :: ss, (d, some A) :: c, ks ++ sh⟩
    | some _ => False)
  | none, _ => False

def shareS (σ : St) (ks : List Nat) : St := ⟨σ.s, σ.c, ks ++ σ.sh⟩
def putSh (σ : St) (ks : List Nat) (dst : Option Nat) (s : S) (K : St → Prop) : Prop :=
  match dst, σ with
  | some d, ⟨ss, c, sh⟩ => K ⟨(d, s) :: ss, c, ks ++ sh⟩
  | none, ⟨ss, c, sh⟩ => K ⟨ss, c, ks ++ sh⟩

@[irreducible] def andI (k : IntKind) (a b : Int) : Int := k.wrap (BitVec.ofInt k.bits a &&& BitVec.ofInt k.bits b).toNat
@[irreducible] def xorI (k : IntKind) (a b : Int) : Int := k.wrap (BitVec.ofInt k.bits a ^^^ BitVec.ofInt k.bits b).toNat
@[irreducible] def shrI (k : IntKind) (a b : Int) : Int := a.fdiv (2 ^ min b.toNat k.bits)
/-- binary operations -/
def binI (op : BinOp) (k : IntKind) (a b : Int) (K : Value → Prop) : Prop :=
  match op with
  | .add => WrK k (a + b) fun n => K (.int k n)
  | .sub => WrK k (a - b) fun n => K (.int k n)
  | .mul => WrK k (a * b) fun n => K (.int k n)
  | .and => K (.int k (andI k a b))
  | .xor => K (.int k (xorI k a b))
  | .quo => NeedK (b ≠ 0) (WrK k (a.tdiv b) fun n => K (.int k n))
  | .rem => NeedK (b ≠ 0) (K (.int k (a.tmod b)))
  | .eql => K (.bool (eqB a b))
  | .neq => K (.bool (!eqB a b))
  | .lss => K (.bool (ltB a b))
  | .leq => K (.bool (leB a b))
  | .gtr => K (.bool (ltB b a))
  | .geq => K (.bool (leB b a))
  | _ => False
def binS (op : BinOp) (a b : ByteArray) (K : Value → Prop) : Prop :=
  match op with
  | .eql => K (.bool (strEq a b))
  | .neq => K (.bool (!strEq a b))
  | .lss => K (.bool (strLt a b))
  | .geq => K (.bool (!strLt a b))
  | .leq => K (.bool (strLt a b || strEq a b))
  | .gtr => K (.bool (!(strLt a b || strEq a b)))
  | .add => NeedK (a.size + b.size ≤ 9223372036854775807) (K (.string (a ++ b)))
  | _ => False
def binB (op : BinOp) (a b : Bool) (K : Value → Prop) : Prop :=
  match op with
  | .eql => K (.bool (bEq a b))
  | .neq => K (.bool (!bEq a b))
  | _ => False
def binK (T : Tys) (op : BinOp) (t : TypeId) (x y : D) (K : D → Prop) : Prop :=
  match x, y with
  | .sc (.int .i64 a), .sc (.int .i64 b) => binI op .i64 a b fun v => K (.sc v)
  | .sc (.int .u8 a), .sc (.int .u8 b) => binI op .u8 a b fun v => K (.sc v)
  | .sc (.int .i64 a), .sc (.int .u64 b) => (match op with
    | .shr => NeedK (0 ≤ b) (K (.sc (.int .i64 (shrI .i64 a b))))
    | _ => False)
  | .sc (.string a), .sc (.string b) => binS op a b fun v => K (.sc v)
  | .sc (.bool a), .sc (.bool b) => (match tyOf t T with
    | some .bool => binB op a b fun v => K (.sc v)
    | _ => False)
  | .agg fs, .agg gs => (match tyOf t T with
    | some (.st Fs) => (match op with
      | .eql => eqsK Fs fs gs fun b => K (.sc (.bool b))
      | .neq => eqsK Fs fs gs fun b => K (.sc (.bool (!b)))
      | _ => False)
    | _ => False)
  | _, _ => False

def unK (op : UnOp) (x : D) (K : D → Prop) : Prop :=
  match op, x with
  | .not, .sc (.bool b) => K (.sc (.bool (!b)))
  | .neg, .sc (.int .i64 a) => WrK .i64 (0 - a) fun n => K (.sc (.int .i64 n))
  | _, _ => False

def intOf? (s : S) (K : Int → Prop) : Prop :=
  match s with
  | .d (.sc (.int .i64 n)) => K n
  | _ => False

def contK (σ : St) (s : S) (K : List D → Prop) : Prop :=
  match s with
  | .d (.sl xs) => K xs
  | .nil => K []
  | .av j m => (match lkC j σ.c with
    | some (some A) => takeK m A.xs K
    | _ => False)
  | .aw j l m => (match lkC j σ.c with
    | some (some A) => WinK A.xs l m K
    | _ => False)
  | _ => False

def u8Of : D → Option Int
  | .sc (.int .u8 n) => some n
  | _ => none
/-- the bytes of a slice, as a string -/
def bytesK : List D → ByteArray → (ByteArray → Prop) → Prop
  | [], acc, K => K acc
  | y :: r, acc, K => (match u8Of y with
    | some n => bytesK r (acc.push (UInt8.ofNat n.toNat)) K
    | none => False)
def mapD : List D → (List T1 → Prop) → Prop
  | [], K => K []
  | x :: r, K => mapD r fun l => K (.d x :: l)
def allSc : List D → Bool
  | [] => true
  | .sc _ :: r => allSc r
  | _ :: _ => false

/-- what a call hands back -/
def resK (σ : St) (dst : Option Nat) (ks : List Nat) (r : Res) (K : St → Prop) : Prop :=
  match r with
  | .one (.d x) => (match x with
    | .sc v => putS σ dst (.d (.sc v)) K
    | _ => putSh σ ks dst (.d x) K)
  | .one (.own ⟨e, sz, xs⟩) => newK σ dst ks (fun d => .av d xs.length) ⟨e, sz, xs⟩ K
  | .one (.ptr ⟨e, sz, xs⟩) => newK σ dst ks (fun d => .ae d 0) ⟨e, sz, xs⟩ K
  | .tup (.ptr _) _ => False
  | .tup (.d x) rest => (match x, allSc rest with
    | .sc v, true => mapD rest fun l => putS σ dst (.tup (.d (.sc v) :: l)) K
    | x, _ => mapD rest fun l => putSh σ ks dst (.tup (.d x :: l)) K)
  | .tup (.own ⟨e, sz, xs⟩) rest => mapD rest fun l => newK σ dst ks (fun d => .tup (.av d xs.length :: l)) ⟨e, sz, xs⟩ K
  | .unit => False
  | .one (.fr ⟨e, sz, xs⟩) => newK σ dst [] (fun d => .av d xs.length) ⟨e, sz, xs⟩ K
  | .tup (.fr ⟨e, sz, xs⟩) rest => (match allSc rest with
    | true => mapD rest fun l => newK σ dst [] (fun d => .tup (.av d xs.length :: l)) ⟨e, sz, xs⟩ K
    | false => False)
  | .one (.tr _) => False
  | .tup (.tr _) _ => False

/-! ### Calls to which an array is lent -/
def hasAe (σ : St) : List Operand → Bool
  | [] => false
  | x :: r => (match valS σ x with
    | .ae _ _ => true
    | _ => hasAe σ r)
/-- p: a pointer is lent, and slices are handed on as data. -/
def largsK (σ : St) (p : Bool) : List Operand → Option Nat → (List A2 → List Nat → Option Nat → Prop) → Prop
  | [], l, K => K [] [] l
  | x :: r, l, K => (match valS σ x with
    | .fn f => largsK σ p r l fun as ks l' => K (.fn f :: as) ks l'
    | .ae k 0 => (match l with
      | none => largsK σ p r (some k) fun as ks l' => K (.lp :: as) ks l'
      | some _ => False)
    | .av k m => (match p, l with
      | false, none => (match lkC k σ.c with
        | some (some A) => NeedK (m = A.xs.length) (largsK σ p r (some k) fun as ks l' => K (.lv :: as) ks l')
        | _ => False)
      | _, _ => toDS σ (.av k m) fun d ks => largsK σ p r l fun as ks' l' => K (.d d :: as) (ks ++ ks') l')
    | .d x => largsK σ p r l fun as ks l' => K (.d x :: as) ks l'
    | .nil => largsK σ p r l fun as ks l' => K (.d (.sl []) :: as) ks l'
    | _ => False)
def resPutK (σ : St) (dst : Option Nat) (ks : List Nat) (r : Res) (K : St → Prop) : Prop :=
  match r with
  | .one (.d x) => putSh σ ks dst (.d x) K
  | .one (.own ⟨e, sz, xs⟩) => newK σ dst ks (fun d => .av d xs.length) ⟨e, sz, xs⟩ K
  | .one (.ptr ⟨e, sz, xs⟩) => newK σ dst ks (fun d => .ae d 0) ⟨e, sz, xs⟩ K
  | .tup (.d x) rest => mapD rest fun l => putSh σ ks dst (.tup (.d x :: l)) K
  | .tup (.own ⟨e, sz, xs⟩) rest => mapD rest fun l => newK σ dst ks (fun d => .tup (.av d xs.length :: l)) ⟨e, sz, xs⟩ K
  | .tup (.ptr _) _ => False
  | .unit => putSh σ ks dst .junk K
  | .one (.fr _) => False
  | .tup (.fr _) _ => False
  | .one (.tr _) => False
  | .tup (.tr _) _ => False
def lcallK (P : Program) (σ : St) (dst : Option Nat) (f : FuncId) (args : List Operand) (K : St → Prop) : Prop :=
  largsK σ (hasAe σ args) args none fun as ks l => (match l with
    | some k => (match lkC k σ.c, memB k (ks ++ σ.sh) with
      | some (some ⟨e, sz, xs⟩), false => LCallK P f as ⟨e, sz, xs⟩ fun r xs' => (match σ with | ⟨ss, c, sh⟩ => resPutK ⟨ss, (k, some ⟨e, sz, xs'⟩) :: c, sh⟩ dst ks r K)
      | _, _ => False)
    | none => False)
def dcallK (P : Program) (σ : St) (dst : Option Nat) (f : FuncId) (args : List Operand) (K : St → Prop) : Prop :=
  largsK σ (hasAe σ args) args none fun as ks l => (match l with
    | some k => (match lkC k σ.c, memB k (ks ++ σ.sh) with
      | some (some ⟨e, sz, xs⟩), false => DCallK P f as (some ⟨e, sz, xs⟩) fun r xs' => (match σ with | ⟨ss, c, sh⟩ => resPutK ⟨ss, (k, some ⟨e, sz, xs'⟩) :: c, sh⟩ dst ks r K)
      | _, _ => False)
    | none => DCallK P f as none fun r _ => resPutK σ dst ks r K)

/-- The last argument is an own array that is given away. -/
def margsK (σ : St) : List Operand → (List A2 → List Nat → Nat → Arr → Prop) → Prop
  | [], _ => False
  | [x], K => (match valS σ x with
    | .av k m => (match lkC k σ.c with
      | some (some ⟨e, sz, xs⟩) => NeedK (m = xs.length) (K [.lv] [] k ⟨e, sz, xs⟩)
      | _ => False)
    | _ => False)
  | x :: y :: r, K => (match valS σ x with
    | .fn f => margsK σ (y :: r) fun as ks k A => K (.fn f :: as) ks k A
    | .av k m => toDS σ (.av k m) fun d ks => margsK σ (y :: r) fun as ks' j A => K (.d d :: as) (ks ++ ks') j A
    | .d x => margsK σ (y :: r) fun as ks k A => K (.d x :: as) ks k A
    | .nil => margsK σ (y :: r) fun as ks k A => K (.d (.sl []) :: as) ks k A
    | _ => False)
def mcallK (P : Program) (σ : St) (dst : Option Nat) (f : FuncId) (args : List Operand) (K : St → Prop) : Prop :=
  margsK σ args fun as ks k A => (match memB k (ks ++ σ.sh) with
    | false => MCallK P f as A fun B rest => (match B with
      | ⟨e, sz, xs⟩ => (match rest with
        | [] => (match σ with | ⟨ss, c, sh⟩ => newK ⟨ss, (k, none) :: c, sh⟩ dst ks (fun d => .av d xs.length) ⟨e, sz, xs⟩ K)
        | r0 :: rest => mapD ((r0 :: rest).map .sc) fun l => (match σ with | ⟨ss, c, sh⟩ => newK ⟨ss, (k, none) :: c, sh⟩ dst ks (fun d => .tup (.av d xs.length :: l)) ⟨e, sz, xs⟩ K)))
    | true => False)

def callK (P : Program) (σ : St) (dst : Option Nat) (fx : S) (args : List Operand) (K : St → Prop) : Prop :=
  match fx with
  | .fn f => argsK σ args fun as ks => CallK P f as fun r => resK σ dst ks r K
  | _ => False

/-- What is held of a cell that may be a slice of an array. -/
def refSK (σ : St) (z : D) (K : S → Prop) : Prop :=
  match z with
  | .ref k m => (match lkC k σ.c with
    | some (some _) => K (.av k m)
    | _ => K (.fv k m))
  | .sc v => K (.d (.sc v))
  | .sl xs => K (.d (.sl xs))
  | _ => False
def lenK (T : Tys) (σ : St) (t : TypeId) (s : S) (K : Int → Prop) : Prop :=
  match s, tyOf t T with
  | .d (.sl xs), some (.sl _) => K xs.length
  | .nil, some (.sl _) => K 0
  | .d (.sc (.string b)), some .str => K b.size
  | .av _ m, some (.sl _) => K m
  | .fv _ m, some (.sl _) => K m
  | _, _ => False

def appFin (σ : St) (dst : Option Nat) (k n : Nat) (A : Arr) (K : St → Prop) : Prop :=
  match dst, σ with
  | some d, ⟨ss, c, sh⟩ => (match lkC d c, memB d sh with
    | none, false => K ⟨(d, .av d n) :: ss, (d, some A) :: (k, none) :: c, sh⟩
    | _, _ => False)
  | none, _ => False

def appK (T : Tys) (σ : St) (dst : Option Nat) (t : TypeId) (x y : S) (K : St → Prop) : Prop :=
  match tyOf t T with
  | some (.sl e) => (match tyOf e T with
    | some ety => (match x with
      | .av k m => (match lkC k σ.c, memB k σ.sh with
        | some (some ⟨e', sz, xs⟩), false => beqK e' e (beqK ety.width sz (contK σ y fun ys => AppK xs m ys ety.width fun n xs' =>
            appFin σ dst k n ⟨e', sz, xs'⟩ K))
        | _, _ => False)
      | .nil => (match ety.width with
        | 0 => False
        | _ + 1 => contK σ y fun ys => AppK [] 0 ys ety.width fun n xs' => newK σ dst [] (fun d => .av d n) ⟨e, ety.width, xs'⟩ K)
      | _ => False)
    | none => False)
  | _ => False

/-- One operation. -/
def dOp (P : Program) (T : Tys) (R : List Nat) (o : Oper) (σ : St) (K : St → Prop) : Prop :=
  match o.op with
  | .move x => forceS (valS σ x) fun s => putS σ o.dst s K
  | .assign x => forceS (valS σ x) fun s => putS σ o.dst s K
  | .pick c a b => (match valS σ c with
    | .d (.sc (.bool t)) => brM t (forceS (valS σ a) fun s => putS σ o.dst s K) (forceS (valS σ b) fun s => putS σ o.dst s K)
    | _ => False)
  | .binOp op t x y _ => (match valS σ x, valS σ y with
    | .d dx, .d dy => binK T op t dx dy fun r => putS σ o.dst (.d r) K
    | _, _ => False)
  | .unOp op _ x => (match valS σ x with
    | .d dx => unK op dx fun r => putS σ o.dst (.d r) K
    | _ => False)
  | .alloc t => (match tyOf t T with
    | some ty => (match ty.width with
      | 0 => False
      | _ + 1 => zeroTy ty fun z => newK σ o.dst [] (fun d => .ae d 0) ⟨t, ty.width, [z]⟩ K)
    | none => False)
  | .box t x => toDS σ (valS σ x) fun y ks => (match y.width with
    | 0 => False
    | _ + 1 => newK σ o.dst ks (fun d => .ae d 0) ⟨t, y.width, [y]⟩ K)
  | .build t parts => (match tyOf t T with
    | some (.st Fs) => partsK σ parts.toList fun ds ks => (match ds.all (·.isCell) with
      | true => zerosF Fs fun zs => setsK parts.toList ds zs fun xs => putSh σ ks o.dst (.d (.agg xs)) K
      | false => False)
    | _ => False)
  | .buildSlice t len parts => (match tyOf t T with
    | some (.sl e) => (match tyOf e T with
      | some ety => partsK σ parts.toList fun ds ks => (match ds.all (fun d => Nat.beq d.width ety.width), ety.width, Nat.ble (len * ety.width) 16777216 with
        | true, _ + 1, true => zeroTy ety fun z => setsK parts.toList ds (List.replicate len z) fun xs => newK σ o.dst ks (fun d => .av d len) ⟨e, ety.width, xs⟩ K
        | _, _, _ => False)
      | none => False)
    | _ => False)
  | .makeSlice t x y => (match tyOf t T with
    | some (.sl e) => (match tyOf e T with
      | some ety => intOf? (valS σ x) fun a => intOf? (valS σ y) fun b => MkK a b fun m => (match ety.width with
        | 0 => False
        | _ + 1 => zeroTy ety fun z => newK σ o.dst [] (fun d => .av d m) ⟨e, ety.width, List.replicate m z⟩ K)
      | none => False)
    | _ => False)
  | .load t x => (match tyOf t T with
    | some ty => (match valS σ x with
      | .el y => fitK ty y (putS σ o.dst (.d y) K)
      | .ae k i => (match lkC k σ.c with
        | some (some A) => getK A.xs i fun y => fitK ty y (putS σ o.dst (.d y) K)
        | _ => False)
      | .af k i f => (match lkC k σ.c with
        | some (some A) => getK A.xs i fun y => (match y with
          | .agg fs => getK fs f fun z => fitK ty z (putS σ o.dst (.d z) K)
          | _ => False)
        | _ => False)
      | _ => False)
    | none => False)
  | .store t x y => (match tyOf t T with
    | some ty => (match valS σ x with
      | .ae k i => toDS σ (valS σ y) fun z ks => (match lkC k σ.c, memB k (ks ++ σ.sh) with
        | some (some ⟨e, sz, xs⟩), false => beqK z.width sz (beqK ty.width sz (setK xs i z fun xs' => (match σ with | ⟨ss, c, sh⟩ => putSh ⟨ss, (k, some ⟨e, sz, xs'⟩) :: c, sh⟩ ks o.dst .un K)))
        | _, _ => False)
      | .af k i f => toDS σ (valS σ y) fun z ks => (match lkC k σ.c, memB k (ks ++ σ.sh), z.isCell with
        | some (some ⟨e, sz, xs⟩), false, true => beqK ty.width 1 (getK xs i fun w => (match w with
          | .agg fs => setK fs f z fun fs' => setK xs i (.agg fs') fun xs' => (match σ with | ⟨ss, c, sh⟩ => putSh ⟨ss, (k, some ⟨e, sz, xs'⟩) :: c, sh⟩ ks o.dst .un K)
          | _ => False))
        | _, _, _ => False)
      | _ => False)
    | none => False)
  | .fieldAddr t x f => (match tyOf t T with
    | some (.st Fs) => (match valS σ x with
      | .el (.agg fs) => beqK Fs.length fs.length (getK fs f fun z => putS σ o.dst (.el z) K)
      | .ae k i => (match lkC k σ.c, Nat.blt f Fs.length with
        | some (some _), true => putS σ o.dst (.af k i f) K
        | _, _ => False)
      | .fe k i => (match Nat.blt f Fs.length with
        | true => putS σ o.dst (.ff k i f) K
        | false => False)
      | _ => False)
    | _ => False)
  | .field t x f => (match tyOf t T with
    | some (.st Fs) => (match valS σ x with
      | .d (.agg fs) => beqK Fs.length fs.length (getK fs f fun z => putS σ o.dst (.d z) K)
      | .dr fs => beqK Fs.length fs.length (getK fs f fun z => refSK σ z fun s => putS σ o.dst s K)
      | _ => False)
    | _ => False)
  | .indexAddr t x ix => (match tyOf t T with
    | some (.sl e) => (match tyOf e T with
      | some ety => (match valS σ x with
        | .d (.sl xs) => intOf? (valS σ ix) fun j => IxK xs j fun y => beqK y.width ety.width (putS σ o.dst (.el y) K)
        | .av k m => (match lkC k σ.c with
          | some (some A) => intOf? (valS σ ix) fun j => beqK ety.width A.sz (IxA j m fun i => putS σ o.dst (.ae k i) K)
          | _ => False)
        | _ => False)
      | none => False)
    | _ => False)
  | .index t x ix => (match tyOf t T with
    | some .str => (match valS σ x with
      | .d (.sc (.string s)) => intOf? (valS σ ix) fun j => StrK s j fun b => putS σ o.dst (.d (.sc (.int .u8 b.toNat))) K
      | _ => False)
    | _ => False)
  | .extract x i => (match valS σ x with
    | .tup xs => getK xs i fun r => (match r with
      | .d y => putS σ o.dst (.d y) K
      | .av k m => putS σ o.dst (.av k m) K
      | .fv k m => putS σ o.dst (.fv k m) K)
    | _ => False)
  | .makeFunc fn first captured => (match fn, first.toList, captured.toList with
    | .func f, [], [] => putS σ o.dst (.fn f) K
    | _, _, _ => False)
  | .call { callee := .value fx, args, .. } => (match fx with
    | .func f => (match memB (100000 + f) R with
      | true => lcallK P σ o.dst f args.toList K
      | false => callK P σ o.dst (valS σ fx) args.toList K)
    | _ => callK P σ o.dst (valS σ fx) args.toList K)
  | .nilCheck x => (match valS σ x with
    | .ae k i => (match lkC k σ.c with
      | some (some _) => putS σ o.dst (.ae k i) K
      | _ => False)
    | _ => False)
  | .convert src dst x => (match tyOf src T, tyOf dst T, valS σ x with
    | some _, some .int, .d (.sc (.int _ m)) => WrK .i64 m fun n => putS σ o.dst (.d (.sc (.int .i64 n))) K
    | some _, some .u8, .d (.sc (.int _ m)) => WrK .u8 m fun n => putS σ o.dst (.d (.sc (.int .u8 n))) K
    | some (.sl e), some .str, s => (match tyOf e T with
      | some .u8 => contK σ s fun ys => bytesK ys ByteArray.empty fun b => putS σ o.dst (.d (.sc (.string b))) K
      | _ => False)
    | _, _, _ => False)
  | .call { callee := .builtin .len, args, argTypes } => (match args.toList, argTypes.toList with
    | [x], [t] => lenK T σ t (valS σ x) fun n => putS σ o.dst (.d (.sc (.int .i64 n))) K
    | _, _ => False)
  | .call { callee := .builtin .min, args, .. } => (match args.toList with
    | [x, y] => intOf? (valS σ x) fun a => intOf? (valS σ y) fun b => putS σ o.dst (.d (.sc (.int .i64 (Min.min a b)))) K
    | _ => False)
  | .call { callee := .builtin .max, args, .. } => (match args.toList with
    | [x, y] => intOf? (valS σ x) fun a => intOf? (valS σ y) fun b => putS σ o.dst (.d (.sc (.int .i64 (Max.max a b)))) K
    | _ => False)
  | .call { callee := .builtin .append, args, argTypes } => (match args.toList, argTypes.toList with
    | [x, y], [t, t'] => beqK t t' (appK T σ o.dst t (valS σ x) (valS σ y) K)
    | _, _ => False)
  | .slice t x lo hi mx => (match mx, tyOf t T with
    | none, some (.sl e) => (match tyOf e T with
      | some ety => (match valS σ x with
        | .d (.sl xs) => (match lo, hi with
          | none, none => SlK xs ety.width none none fun zs => putS σ o.dst (.d (.sl zs)) K
          | some l, none => intOf? (valS σ l) fun a => SlK xs ety.width (some a) none fun zs => putS σ o.dst (.d (.sl zs)) K
          | none, some h => intOf? (valS σ h) fun b => SlK xs ety.width none (some b) fun zs => putS σ o.dst (.d (.sl zs)) K
          | some l, some h => intOf? (valS σ l) fun a => intOf? (valS σ h) fun b => SlK xs ety.width (some a) (some b) fun zs => putS σ o.dst (.d (.sl zs)) K)
        | .av k m => (match lkC k σ.c, lo, hi with
          | some (some _), none, some h => intOf? (valS σ h) fun b => SlA m (some b) fun n => putS σ o.dst (.av k n) K
          | some (some A), some l, none => intOf? (valS σ l) fun a => beqK ety.width A.sz (SlW m a none fun l h => putS σ o.dst (.aw k l h) K)
          | some (some A), some l, some h => intOf? (valS σ l) fun a => intOf? (valS σ h) fun b => beqK ety.width A.sz (SlW m a (some b) fun l h => putS σ o.dst (.aw k l h) K)
          | _, _, _ => False)
        | _ => False)
      | none => False)
    | _, _ => False)
  | _ => False
/-- One operation, where calls may have results that are known by a property. -/
def dOpE (P : Program) (T : Tys) (R : List Nat) (o : Oper) (σ : St) (K : St → Prop) : Prop :=
  match o.op with
  | .call { callee := .value (.func f), args, .. } => (match memB (200000 + f) R with
    | true => dcallK P σ o.dst f args.toList K
    | false => (match memB (300000 + f) R with
      | true => mcallK P σ o.dst f args.toList K
      | false => dOp P T R o σ K))
  | _ => dOp P T R o σ K
end Go.DL

namespace Go.DL
open Go.RowKit
section
variable {P : Program} {T : Tys} {R : List Nat}

theorem binI_spec {op : BinOp} {k : IntKind} {a b : Int} {K : Value → Prop} (t : TypeId) (h : binI op k a b K) : ∃ r, BinOK P op t (.int k a) (.int k b) r ∧ K r := by
  cases op <;> simp only [binI] at h
  case add => replace h := h.out; exact ⟨_, ⟨rfl, fun x y w => by simp [eqGuard_at_int, binOp_add, Op.intArith]⟩, h⟩
  case sub => replace h := h.out; exact ⟨_, ⟨rfl, fun x y w => by simp [eqGuard_at_int, binOp_sub, Op.intArith]⟩, h⟩
  case mul => replace h := h.out; exact ⟨_, ⟨rfl, fun x y w => by simp [eqGuard_at_int, binOp_mul, Op.intArith]⟩, h⟩
  case and => exact ⟨_, ⟨rfl, fun x y w => by simp [eqGuard_at_int, binOp_and, Op.intBits, andI]⟩, h⟩
  case xor => exact ⟨_, ⟨rfl, fun x y w => by simp [eqGuard_at_int, binOp_xor, Op.intBits, xorI]⟩, h⟩
  case quo => obtain ⟨h1, h2⟩ := h.out; exact ⟨_, ⟨rfl, fun x y w => by simp [eqGuard_at_int, binOp_quo, Op.intDiv, h1]⟩, h2.out⟩
  case rem => replace h := h.out; exact ⟨_, ⟨rfl, fun x y w => by simp [eqGuard_at_int, binOp_rem, Op.intDiv, h.1]⟩, h.2⟩
  case eql => exact ⟨_, ⟨rfl, fun x y w => by simp [eqGuard_at_int, binOp_eql, eqB]⟩, h⟩
  case neq => exact ⟨_, ⟨rfl, fun x y w => by simp [eqGuard_at_int, binOp_neq, eqB, bne]⟩, h⟩
  case lss => exact ⟨_, ⟨rfl, fun x y w => by simp [eqGuard_at_int, binOp_lss, ltB]⟩, h⟩
  case leq => exact ⟨_, ⟨rfl, fun x y w => by simp [eqGuard_at_int, binOp_leq, leB]⟩, h⟩
  case gtr => exact ⟨_, ⟨rfl, fun x y w => by simp [eqGuard_at_int, binOp_gtr, ltB]⟩, h⟩
  case geq => exact ⟨_, ⟨rfl, fun x y w => by simp [eqGuard_at_int, binOp_geq, leB]⟩, h⟩

theorem binS_spec {op : BinOp} {a b : ByteArray} {K : Value → Prop} (t : TypeId) (h : binS op a b K) : ∃ r, BinOK P op t (.string a) (.string b) r ∧ K r := by
  cases op <;> simp only [binS] at h
  case add =>
    replace h := h.out
    refine ⟨_, ⟨rfl, fun x y w => ?_⟩, h.2⟩
    have : ¬ ((9223372036854775807 : Int) < (a.size : Int) + (b.size : Int)) := by omega
    simp [eqGuard_at_string, binOp, Op.stringOp, this]
  all_goals exact ⟨_, ⟨rfl, fun x y w => by simp [eqGuard_at_string, binOp, Op.stringOp, strEq, strLt]⟩, h⟩

theorem binB_spec {op : BinOp} {a b : Bool} {K : Value → Prop} {t : TypeId} (ht : P.underlying t = some .bool) (h : binB op a b K) : ∃ r, BinOK P op t (.bool a) (.bool b) r ∧ K r := by
  cases op <;> simp only [binB] at h
  case eql => exact ⟨_, ⟨rfl, fun x y w => by simp [eqGuard_at_bool, binOp, Op.equal, Op.maxDepth, run_equalIn_bool' w 9999 t a b ht, bEq]⟩, h⟩
  case neq => exact ⟨_, ⟨rfl, fun x y w => by simp [eqGuard_at_bool, binOp, Op.equal, Op.maxDepth, run_equalIn_bool' w 9999 t a b ht, bEq]⟩, h⟩

/-- What an evaluated operation has done. -/
def Out (P : Program) (T : Tys) (R : List Nat) (o : Oper) (σ : St) (K : St → Prop) : Prop := ∃ e σ', (Tm P T R o σ.ab e ∨ Wm P T R o σ.ab e) ∧ σ'.ab = σ.ab.eff o.dst e ∧ K σ'

theorem ab_cons (σ : St) (d : Nat) (s : S) (ks : List Nat) : (⟨(d, s) :: σ.s, σ.c, ks ++ σ.sh⟩ : St).ab = (σ.ab.shares ks).put (some d) s := by
  refine Ab.ext' (funext fun t => ?_) ?_ (funext fun k => ?_) ?_
  · rw [put_s, (shares_c σ.ab ks).2.2]
    simp only [St.ab, lkS_cons]
    by_cases h : t = d
    · subst h; simp
    · simp [h, Ne.symm h]
  · rw [put_c, (shares_c σ.ab ks).1]; rfl
  · rw [put_sh, shares_sh]
    simp only [St.ab, memB_iff]
    rw [Bool.or_comm]
    simp
  · rw [put_us, (shares_c σ.ab ks).2.1]; rfl

theorem putS_out {o : Oper} {σ : St} {s : S} {K : St → Prop} (h : putS σ o.dst s K) (he : TEff P T o σ.ab { s }) : Out P T R o σ K := by
  unfold putS at h
  split at h
  · rename_i d ss c sh hd
    refine ⟨_, _, .inl (.inl he), ?_, h⟩
    have := ab_cons ⟨ss, c, sh⟩ d s []
    rw [hd]
    exact this
  · rename_i hd
    refine ⟨_, _, .inl (.inl he), ?_, h⟩
    rw [hd]; rfl

theorem ab_share (σ : St) (ks : List Nat) : (⟨σ.s, σ.c, ks ++ σ.sh⟩ : St).ab = σ.ab.shares ks := by
  refine Ab.ext' ?_ ?_ (funext fun k => ?_) ?_
  · rw [(shares_c σ.ab ks).2.2]; rfl
  · rw [(shares_c σ.ab ks).1]; rfl
  · rw [shares_sh]
    simp only [St.ab, memB_iff]
    rw [Bool.or_comm]
    simp
  · rw [(shares_c σ.ab ks).2.1]; rfl

theorem putSh_out {o : Oper} {σ : St} {s : S} {ks : List Nat} {K : St → Prop} (h : putSh σ ks o.dst s K) (he : TEff P T o σ.ab { s, sh := ks }) : Out P T R o σ K := by
  unfold putSh at h
  split at h
  · rename_i d ss c sh hd
    refine ⟨_, _, .inl (.inl he), ?_, h⟩
    have := ab_cons ⟨ss, c, sh⟩ d s ks
    rw [hd]
    exact this
  · rename_i ss c sh hd
    refine ⟨_, _, .inl (.inl he), ?_, h⟩
    rw [hd]
    exact ab_share ⟨ss, c, sh⟩ ks

theorem ab_new (σ : St) (d : Nat) (s : S) (ks : List Nat) (A : Arr) : (⟨(d, s) :: σ.s, (d, some A) :: σ.c, ks ++ σ.sh⟩ : St).ab = ((σ.ab.shares ks).al d A).put (some d) s := by
  have h := ab_cons σ d s ks
  refine Ab.ext' ?_ (funext fun k => ?_) ?_ (funext fun k => ?_)
  · have := congrArg Ab.s h; exact this
  · rw [put_c]
    have e := congrFun (shares_c σ.ab ks).1 k
    simp only [Ab.al, St.ab, lkC_cons]
    by_cases hk : k = d
    · simp [hk]
    · simp only [hk, if_false]; exact e.symm
  · have := congrArg Ab.sh h
    rw [put_sh] at this ⊢
    exact this
  · rw [put_us]
    have e := congrFun (shares_c σ.ab ks).2.1 k
    simp only [Ab.al, St.ab, lkC_cons]
    by_cases hk : k = d
    · simp [hk]
    · simp only [hk, if_false]; exact e.symm

theorem newK_out {o : Oper} {σ : St} {ks : List Nat} {s : Nat → S} {A : Arr} {K : St → Prop} (h : newK σ o.dst ks s A K) (he : ∀ d, o.dst = some d → σ.ab.us d = false → TEff P T o σ.ab { s := s d, sh := ks, al := some (d, A) }) : Out P T R o σ K := by
  unfold newK at h
  split at h
  · rename_i d ss c sh hd
    split at h
    · rename_i hl
      refine ⟨_, _, .inl (.inl (he d hd (by simp [St.ab, hl]))), ?_, h⟩
      rw [hd]
      exact ab_new ⟨ss, c, sh⟩ d (s d) ks A
    · exact h.elim
  · exact h.elim

theorem newK_outW {o : Oper} {σ : St} {s : Nat → S} {A : Arr} {K : St → Prop} (h : newK σ o.dst [] s A K) (he : ∀ d, o.dst = some d → σ.ab.us d = false → WEff P T R o σ.ab { s := s d, al := some (d, A) }) : Out P T R o σ K := by
  unfold newK at h
  split at h
  · rename_i d ss c sh hd
    split at h
    · rename_i hl
      refine ⟨_, _, .inr (.inl (he d hd (by simp [St.ab, hl]))), ?_, h⟩
      rw [hd]
      exact ab_new ⟨ss, c, sh⟩ d (s d) [] A
    · exact h.elim
  · exact h.elim

theorem live {σ : St} {k : Nat} {A : Arr} (h : lkC k σ.c = some (some A)) : σ.ab.c k = some A := by simp [St.ab, h]

theorem toDS_spec {σ : St} {s : S} {K : D → List Nat → Prop} (h : toDS σ s K) : ∃ x ks, ToD σ.ab s x ks ∧ K x ks := by
  unfold toDS at h
  split at h
  · exact ⟨_, _, .d _, h⟩
  · exact ⟨_, _, .nil, h⟩
  · split at h
    · rename_i A hl
      exact ⟨_, _, .av _ _ A (live hl), takeK_iff.1 h⟩
    · exact h.elim
  · exact h.elim

theorem argK_spec {σ : St} {s : S} {K : A1 → List Nat → Prop} (h : argK σ s K) : ∃ x ks, ToA σ.ab s x ks ∧ K x ks := by
  unfold argK at h
  split at h
  · exact ⟨_, _, .fn _, h⟩
  · exact ⟨_, _, .d (.d _), h⟩
  · obtain ⟨x, ks, h1, h2⟩ := toDS_spec h; exact ⟨_, _, .d h1, h2⟩

theorem argsK_spec {σ : St} : ∀ {l : List Operand} {K : List A1 → List Nat → Prop}, argsK σ l K → ∃ as ks, ToAs σ.ab (l.map σ.ab.val) as ks ∧ K as ks
  | [], _, h => ⟨_, _, .nil, h⟩
  | x :: r, _, h => by
    obtain ⟨a, ks, h1, h2⟩ := argK_spec (K := _) h
    obtain ⟨as, ks', h3, h4⟩ := argsK_spec h2
    rw [valS_ab] at h1
    exact ⟨_, _, .cons h1 h3, h4⟩

theorem partsK_spec {σ : St} : ∀ {l : List (Nat × Operand)} {K : List D → List Nat → Prop}, partsK σ l K → ∃ ds ks, ToDs σ.ab (l.map fun p => σ.ab.val p.2) ds ks ∧ K ds ks
  | [], _, h => ⟨_, _, .nil, h⟩
  | (i, x) :: r, _, h => by
    obtain ⟨a, ks, h1, h2⟩ := toDS_spec (K := _) h
    obtain ⟨as, ks', h3, h4⟩ := partsK_spec h2
    rw [valS_ab] at h1
    exact ⟨_, _, .cons h1 h3, h4⟩

theorem ToDs.len {τ : Ab} {ss : List S} {ds : List D} {ks : List Nat} (h : ToDs τ ss ds ks) : ds.length = ss.length := by
  induction h with
  | nil => rfl
  | cons _ _ ih => simp [ih]

theorem setsK_spec : ∀ {ps : List (Nat × Operand)} {ds xs : List D} {K : List D → Prop}, ds.length = ps.length → setsK ps ds xs K → (∀ p ∈ ps, p.1 < xs.length) ∧ K (((ps.map (·.1)).zip ds).foldl (fun xs q => xs.set q.1 q.2) xs)
  | [], _, _, _, _, h => ⟨fun p hp => by simp at hp, by simpa [setsK] using h⟩
  | (i, x) :: ps, [], _, _, hl, _ => by simp at hl
  | (i, x) :: ps, d :: ds, xs, K, hl, h => by
    simp only [setsK] at h
    obtain ⟨h1, h2⟩ := setK_iff.1 h
    obtain ⟨h3, h4⟩ := setsK_spec (by simpa using hl) h2
    refine ⟨fun p hp => ?_, h4⟩
    rcases List.mem_cons.1 hp with rfl | hp
    · exact h1
    · simpa using h3 p hp

theorem intOf_spec {s : S} {K : Int → Prop} (h : intOf? s K) : ∃ n, s = .d (.sc (.int .i64 n)) ∧ K n := by
  unfold intOf? at h
  split at h
  · exact ⟨_, rfl, h⟩
  · exact h.elim

theorem contK_spec {σ : St} {s : S} {K : List D → Prop} (h : contK σ s K) : ∃ ys, ToCont σ.ab s ys ∧ K ys := by
  unfold contK at h
  split at h
  · exact ⟨_, .d _, h⟩
  · exact ⟨_, .nil, h⟩
  · split at h
    · rename_i A hl
      exact ⟨_, .av _ _ A (live hl), takeK_iff.1 h⟩
    · exact h.elim
  · split at h
    · rename_i A hl
      obtain ⟨zs, rfl, h⟩ := h.out
      exact ⟨_, .aw _ _ _ A (live hl), h⟩
    · exact h.elim
  · exact h.elim

theorem u8Of_spec {y : D} {n : Int} (h : u8Of y = some n) : y = .sc (.int .u8 n) := by
  unfold u8Of at h
  split at h
  · cases h; rfl
  · cases h
theorem bytesK_spec : ∀ {ys : List D} {acc : ByteArray} {K : ByteArray → Prop}, bytesK ys acc K → ∃ bs : List Int, ys = bs.map (fun n => .sc (.int .u8 n)) ∧ K (bs.foldl (fun r n => r.push (UInt8.ofNat n.toNat)) acc)
  | [], acc, K, h => ⟨[], rfl, h⟩
  | y :: r, acc, K, h => by
    unfold bytesK at h
    cases hu : u8Of y with
    | none => rw [hu] at h; exact h.elim
    | some n =>
      rw [hu] at h
      obtain ⟨bs, rfl, hk⟩ := bytesK_spec h
      exact ⟨n :: bs, by rw [u8Of_spec hu]; rfl, hk⟩
theorem mapD_eq (l : List D) (K : List T1 → Prop) : mapD l K = K (l.map .d) := by
  induction l generalizing K with
  | nil => rfl
  | cons x r ih => simp only [mapD, ih]; rfl

theorem allSc_spec {l : List D} (h : allSc l = true) : ∃ vs : List Value, l = vs.map .sc := by
  induction l with
  | nil => exact ⟨[], rfl⟩
  | cons x r ih =>
    cases x with
    | sc v => obtain ⟨vs, hv⟩ := ih h; exact ⟨v :: vs, by simp [hv]⟩
    | _ => cases h

theorem callK_out {o : Oper} {σ : St} {fx : Operand} {args : Array Operand} {tys : Array TypeId} (ho : o.op = .call { callee := .value fx, args, argTypes := tys }) {K : St → Prop} (h : callK P σ o.dst (valS σ fx) args.toList K) : Out P T R o σ K := by
  unfold callK at h
  split at h
  case h_2 => exact h.elim
  case h_1 f hf =>
  rw [valS_ab] at hf
  obtain ⟨as, ks, h1, h2⟩ := argsK_spec h
  replace h2 := h2.out
  obtain ⟨r, hc, h3⟩ := h2
  unfold resK at h3
  split at h3
  · rename_i x
    split at h3
    · exact putS_out h3 (.callFlat fx args tys f as ks _ _ ho hf h1 hc (.d _))
    · exact putSh_out h3 (.call fx args tys f as ks _ _ none ho hf h1 hc (.d _))
  · rename_i e sz xs
    exact newK_out h3 fun d hd hu => .call fx args tys f as ks _ _ _ ho hf h1 hc (.own ⟨e, sz, xs⟩ d hd hu)
  · rename_i e sz xs
    exact newK_out h3 fun d hd hu => .call fx args tys f as ks _ _ _ ho hf h1 hc (.ptr ⟨e, sz, xs⟩ d hd hu)
  · exact h3.elim
  · rename_i x rest
    split at h3
    · rename_i v hr
      obtain ⟨vs, rfl⟩ := allSc_spec hr
      rw [mapD_eq] at h3
      refine putS_out h3 (.callFlat fx args tys f as ks _ _ ho hf h1 hc ?_)
      have := FlatRes.tup v vs
      simpa [List.map_map, Function.comp_def] using this
    · rw [mapD_eq] at h3
      exact putSh_out h3 (.call fx args tys f as ks _ _ none ho hf h1 hc (.tupd _ _))
  · rename_i e sz xs rest
    rw [mapD_eq] at h3
    exact newK_out h3 fun d hd hu => .call fx args tys f as ks _ _ _ ho hf h1 hc (.tupo ⟨e, sz, xs⟩ rest d hd hu)
  · exact h3.elim
  · rename_i e sz xs
    exact newK_out h3 fun d hd hu => .callFr fx args tys f as ks _ _ _ ho hf h1 hc (.one ⟨e, sz, xs⟩ d hd hu)
  · rename_i e sz xs rest
    split at h3
    · rename_i hr
      obtain ⟨vs, rfl⟩ := allSc_spec hr
      rw [mapD_eq] at h3
      refine newK_out h3 fun d hd hu => .callFr fx args tys f as ks _ _ _ ho hf h1 hc ?_
      have := FrRes.tup (τ := σ.ab) (dst := o.dst) ⟨e, sz, xs⟩ vs d hd hu
      simpa [List.map_map, Function.comp_def] using this
    · exact h3.elim
  · exact h3.elim
  · exact h3.elim

theorem ab_up (σ : St) (k : Nat) (A : Arr) (ks : List Nat) (hk : (lkC k σ.c).isSome = true) : (⟨σ.s, (k, some A) :: σ.c, ks ++ σ.sh⟩ : St).ab = (σ.ab.shares ks).up k A := by
  refine Ab.ext' ?_ (funext fun j => ?_) ?_ (funext fun j => ?_)
  · have := (shares_c σ.ab ks).2.2; exact this.symm
  · have e := congrFun (shares_c σ.ab ks).1 j
    simp only [Ab.up, St.ab, lkC_cons]
    by_cases hj : j = k
    · simp [hj]
    · simp only [hj, if_false]; exact e.symm
  · have := congrArg Ab.sh (ab_share σ ks); exact this
  · have e := congrFun (shares_c σ.ab ks).2.1 j
    simp only [Ab.up, St.ab, lkC_cons]
    by_cases hj : j = k
    · subst hj; simp only [if_true]; exact (e.trans hk).symm
    · simp only [hj, if_false]; exact e.symm

theorem newK_ab {σ : St} {dst : Option Nat} {ks : List Nat} {s : Nat → S} {A : Arr} {K : St → Prop} (h : newK σ dst ks s A K) : ∃ d σ', dst = some d ∧ σ.ab.us d = false ∧ σ'.ab = ((σ.ab.shares ks).al d A).put (some d) (s d) ∧ K σ' := by
  unfold newK at h
  split at h
  · rename_i d ss c sh
    split at h
    · rename_i hl
      exact ⟨d, _, rfl, by simp [St.ab, hl], ab_new ⟨ss, c, sh⟩ d (s d) ks A, h⟩
    · exact h.elim
  · exact h.elim
theorem putSh_ab {σ : St} {ks : List Nat} {dst : Option Nat} {s : S} {K : St → Prop} (h : putSh σ ks dst s K) : ∃ σ', σ'.ab = (σ.ab.shares ks).put dst s ∧ K σ' := by
  unfold putSh at h
  split at h
  · rename_i d ss c sh
    exact ⟨_, ab_cons ⟨ss, c, sh⟩ d s ks, h⟩
  · rename_i ss c sh
    exact ⟨_, ab_share ⟨ss, c, sh⟩ ks, h⟩
theorem resPut_spec {σ : St} {dst : Option Nat} {ks : List Nat} {r : Res} {K : St → Prop} (h : resPutK σ dst ks r K) : ∃ s al σ', ResE σ.ab dst r s al ∧ σ'.ab = ((σ.ab.shares ks).alO al).put dst s ∧ K σ' := by
  unfold resPutK at h
  split at h
  · obtain ⟨σ', h1, h2⟩ := putSh_ab h
    exact ⟨_, none, σ', .d _, h1, h2⟩
  · rename_i e sz xs
    obtain ⟨d, σ', rfl, hu, h1, h2⟩ := newK_ab h
    exact ⟨_, _, σ', .own ⟨e, sz, xs⟩ d rfl hu, h1, h2⟩
  · rename_i e sz xs
    obtain ⟨d, σ', rfl, hu, h1, h2⟩ := newK_ab h
    exact ⟨_, _, σ', .ptr ⟨e, sz, xs⟩ d rfl hu, h1, h2⟩
  · rw [mapD_eq] at h
    obtain ⟨σ', h1, h2⟩ := putSh_ab h
    exact ⟨_, none, σ', .tupd _ _, h1, h2⟩
  · rename_i e sz xs rest
    rw [mapD_eq] at h
    obtain ⟨d, σ', rfl, hu, h1, h2⟩ := newK_ab h
    exact ⟨_, _, σ', .tupo ⟨e, sz, xs⟩ rest d rfl hu, h1, h2⟩
  · exact h.elim
  · obtain ⟨σ', h1, h2⟩ := putSh_ab h
    exact ⟨_, none, σ', .unit, h1, h2⟩
  · exact h.elim
  · exact h.elim
  · exact h.elim
  · exact h.elim
theorem shares_up (τ : Ab) (k : Nat) (A : Arr) (ks : List Nat) : (τ.up k A).shares ks = (τ.shares ks).up k A := by
  induction ks generalizing τ with
  | nil => rfl
  | cons j ks ih => exact ih (τ.share j)
theorem largs_spec {σ : St} {p : Bool} : ∀ {l : List Operand} {lo : Option Nat} {K : List A2 → List Nat → Option Nat → Prop}, largsK σ p l lo K → ∃ as ks lo', K as ks lo' ∧ (∀ k, lo = some k → lo' = some k) ∧
    (∀ k, lo = none → lo' = some k → ∃ x ∈ l, (∃ A, lkC k σ.c = some (some A) ∧ σ.ab.val x = .av k A.xs.length) ∨ σ.ab.val x = .ae k 0) ∧
    (∀ (k : Nat) (A : Option Arr), (∀ k1, lo' = some k1 → k = k1 ∧ ∃ A0, A = some A0 ∧ (∀ A1, lkC k1 σ.c = some (some A1) → A1 = A0)) → ToLs σ.ab k A (l.map σ.ab.val) as ks)
  | [], lo, K, h => ⟨[], [], lo, h, fun _ h => h, (fun k h1 h2 => by rw [h1] at h2; cases h2), fun _ _ _ => .nil⟩
  | x :: r, lo, K, h => by
    have plain : ∀ (a : A2) (j : List Nat), (∀ k A, ToL σ.ab k A (σ.ab.val x) a j) → largsK σ p r lo (fun as ks l' => K (a :: as) (j ++ ks) l') → ∃ as ks lo', K as ks lo' ∧ (∀ k, lo = some k → lo' = some k) ∧
        (∀ k, lo = none → lo' = some k → ∃ y ∈ x :: r, (∃ A, lkC k σ.c = some (some A) ∧ σ.ab.val y = .av k A.xs.length) ∨ σ.ab.val y = .ae k 0) ∧
        (∀ (k : Nat) (A : Option Arr), (∀ k1, lo' = some k1 → k = k1 ∧ ∃ A0, A = some A0 ∧ (∀ A1, lkC k1 σ.c = some (some A1) → A1 = A0)) → ToLs σ.ab k A ((x :: r).map σ.ab.val) as ks) := fun a j ha h => by
      obtain ⟨as, ks, lo', h1, h2, h3, h4⟩ := largs_spec h
      exact ⟨a :: as, j ++ ks, lo', h1, h2, fun k e1 e2 => by obtain ⟨y, hy, h5⟩ := h3 k e1 e2; exact ⟨y, List.mem_cons_of_mem _ hy, h5⟩, fun k A hk => .cons (ha k A) (h4 k A hk)⟩
    unfold largsK at h
    split at h
    · rename_i f hv
      rw [valS_ab] at hv
      exact plain (.fn f) [] (fun k A => by rw [hv]; exact .fn f) h
    · rename_i k hv
      rw [valS_ab] at hv
      split at h
      case h_2 => exact h.elim
      obtain ⟨as, ks, lo', h1, h2, h3, h4⟩ := largs_spec h
      have e := h2 k rfl
      refine ⟨.lp :: as, [] ++ ks, lo', h1, fun _ h => (by cases h), fun k' _ e2 => ⟨x, List.mem_cons_self, .inr ?_⟩, fun k' A hk => .cons ?_ (h4 k' A hk)⟩
      · rw [e] at e2; cases e2; exact hv
      · obtain ⟨rfl, A0, rfl, _⟩ := hk k e
        rw [hv]; exact .lp A0 rfl
    · rename_i k m hv
      rw [valS_ab] at hv
      split at h
      · split at h
        case h_2 => exact h.elim
        rename_i A hA
        replace h := h.out
        obtain ⟨hm, h⟩ := h
        obtain ⟨as, ks, lo', h1, h2, h3, h4⟩ := largs_spec h
        have e := h2 k rfl
        refine ⟨.lv :: as, [] ++ ks, lo', h1, fun _ h => (by cases h), fun k' _ e2 => ⟨x, List.mem_cons_self, .inl ?_⟩, fun k' A' hk => .cons ?_ (h4 k' A' hk)⟩
        · rw [e] at e2; cases e2; exact ⟨A, hA, by rw [hv, hm]⟩
        · obtain ⟨rfl, A0, rfl, h5⟩ := hk k e
          have := h5 A hA; subst this
          rw [hv]; exact .lv m A rfl hm
      · obtain ⟨d, j, h5, h⟩ := toDS_spec h
        exact plain (.d d) j (fun k' A' => by rw [hv]; exact .d h5) h
    · rename_i y hv
      rw [valS_ab] at hv
      exact plain (.d y) [] (fun k A => by rw [hv]; exact .d (.d y)) h
    · rename_i hv
      rw [valS_ab] at hv
      exact plain (.d (.sl [])) [] (fun k A => by rw [hv]; exact .d .nil) h
    · exact h.elim

theorem shares_sh_mem {σ : St} {ks : List Nat} {k : Nat} (h : memB k (ks ++ σ.sh) = false) : (σ.ab.shares ks).sh k = false := by
  rw [shares_sh]
  rw [memB_iff] at h
  simp only [St.ab, memB_iff]
  simp at h ⊢
  exact ⟨h.2, h.1⟩

/-- a write -/
theorem up_out {o : Oper} {σ : St} {k : Nat} {A : Arr} {ks : List Nat} {K : St → Prop} (hk : (lkC k σ.c).isSome = true) (h : putSh ⟨σ.s, (k, some A) :: σ.c, σ.sh⟩ ks o.dst .un K)
    (he : WEff P T R o σ.ab { s := .un, sh := ks, up := some (k, A) }) : Out P T R o σ K := by
  unfold putSh at h
  split at h
  · rename_i d ss c sh hd hσ
    cases hσ
    refine ⟨_, _, .inr (.inl he), ?_, h⟩
    have h1 := ab_cons ⟨σ.s, (k, some A) :: σ.c, σ.sh⟩ d .un ks
    have h2 := ab_up σ k A ks hk
    rw [hd]
    refine h1.trans ?_
    have h3 : (St.ab ⟨σ.s, (k, some A) :: σ.c, σ.sh⟩).shares ks = (σ.ab.shares ks).up k A := by
      rw [← h2]; exact (ab_share ⟨σ.s, (k, some A) :: σ.c, σ.sh⟩ ks).symm
    rw [h3]
    rfl
  · rename_i ss c sh hd hσ
    cases hσ
    refine ⟨_, _, .inr (.inl he), ?_, h⟩
    rw [hd]
    exact ab_up σ k A ks hk

theorem ab_app (σ : St) (k d : Nat) (s : S) (A : Arr) (hk : (lkC k σ.c).isSome = true) : (⟨(d, s) :: σ.s, (d, some A) :: (k, none) :: σ.c, σ.sh⟩ : St).ab = ((σ.ab.kill k).al d A).put (some d) s := by
  refine Ab.ext' (funext fun t => ?_) (funext fun j => ?_) ?_ (funext fun j => ?_)
  · rw [put_s]
    simp only [St.ab, lkS_cons, Ab.al, Ab.kill]
    by_cases h : t = d
    · subst h; simp
    · simp [h, Ne.symm h]
  · rw [put_c]
    simp only [Ab.al, Ab.kill, St.ab, lkC_cons]
    by_cases hj : j = d
    · simp [hj]
    · by_cases hjk : j = k
      · simp only [hj, if_false]; simp [hjk]
      · simp [hj, hjk]
  · rw [put_sh]; rfl
  · rw [put_us]
    simp only [Ab.al, Ab.kill, St.ab, lkC_cons]
    by_cases hj : j = d
    · simp [hj]
    · by_cases hjk : j = k
      · subst hjk; simp only [hj, if_false, if_true]; simp [hk]
      · simp [hj, hjk]

theorem appFin_out {o : Oper} {σ : St} {k m : Nat} {A : Arr} {K : St → Prop} (h : appFin σ o.dst k m A K) (hk : (lkC k σ.c).isSome = true)
    (he : ∀ d, o.dst = some d → σ.ab.us d = false → σ.ab.sh d = false → WEff P T R o σ.ab { s := .av d m, ki := some k, al := some (d, A) }) : Out P T R o σ K := by
  unfold appFin at h
  split at h
  · rename_i d ss c sh hd
    split at h
    · rename_i hlc hmb
      refine ⟨_, _, .inr (.inl (he d hd (by simp [St.ab, hlc]) hmb)), ?_, h⟩
      rw [hd]
      exact ab_app ⟨ss, c, sh⟩ k d (.av d m) A hk
    · exact h.elim
  · exact h.elim

theorem appK_out (_hT : TOK P T) {o : Oper} {σ : St} {x y : Operand} {t : TypeId} (ho : o.op = .call { callee := .builtin .append, args := #[x, y], argTypes := #[t, t] }) {K : St → Prop} (h : appK T σ o.dst t (valS σ x) (valS σ y) K) : Out P T R o σ K := by
  have hv := valS_ab σ
  unfold appK at h
  split at h
  case h_2 => exact h.elim
  rename_i e hty
  split at h
  case h_2 => exact h.elim
  rename_i ety hety
  split at h
  · rename_i k m hx
    rw [hv] at hx
    split at h
    · rename_i e' sz xs hl hsh
      obtain ⟨he, h⟩ := beqK_iff.1 h
      obtain ⟨hw, h⟩ := beqK_iff.1 h
      obtain ⟨ys, hy, h⟩ := contK_spec h
      rw [hv] at hy
      replace h := h.out
      obtain ⟨n, xs', h1, h2, hn, hwd, h⟩ := h
      subst h1; subst h2
      exact appFin_out h (by rw [hl]; rfl) fun d hd hus hds => .appendA t x y e ety k m d ⟨e', sz, xs⟩ ys ho hd hus hds (tyOf_mem hty) (tyOf_mem hety) hx (live hl) hsh he hw hy hwd hn
    · exact h.elim
  · rename_i hx
    rw [hv] at hx
    split at h
    · exact h.elim
    · rename_i w hw
      obtain ⟨ys, hy, h⟩ := contK_spec h
      rw [hv] at hy
      replace h := h.out
      obtain ⟨n, xs', h1, h2, hn, hwd, h⟩ := h
      have e1 : xs' = ys := by simpa using h2
      subst e1
      have e2 : n = xs'.length := by simpa using h1
      subst e2
      exact newK_outW h fun d hd hu => .appendN t x y e ety d xs' ho hd hu (tyOf_mem hty) (tyOf_mem hety) (by omega) hx hy hwd hn
  · exact h.elim

theorem lcallK_out {o : Oper} {σ : St} {f : FuncId} {args : Array Operand} {tys : Array TypeId} (ho : o.op = .call { callee := .value (.func f), args, argTypes := tys }) (hL : memB (100000 + f) R = true) {K : St → Prop} (h : lcallK P σ o.dst f args.toList K) : Out P T R o σ K := by
  unfold lcallK at h
  obtain ⟨as, ks, lo, h1, h2, h3, h4⟩ := largs_spec h
  split at h1
  case h_2 => exact h1.elim
  rename_i k
  split at h1
  case h_2 => exact h1.elim
  rename_i e sz xs hl hsh
  replace h1 := h1.out
  obtain ⟨r, xs', hc, h1⟩ := h1
  obtain ⟨s, al, σ', hr, hab, hK⟩ := resPut_spec h1
  have hup : (⟨σ.s, (k, some ⟨e, sz, xs'⟩) :: σ.c, σ.sh⟩ : St).ab = σ.ab.up k ⟨e, sz, xs'⟩ := by
    have := ab_up σ k ⟨e, sz, xs'⟩ [] (by rw [hl]; rfl)
    simpa [Ab.shares] using this
  rw [hup] at hr hab
  refine ⟨_, σ', .inr (.inl (.lcall (.func f) args tys f as ks k ⟨e, sz, xs⟩ r xs' s al ho rfl (by rw [memB_iff] at hL; exact hL) (h4 k (some ⟨e, sz, xs⟩) (fun k1 e1 => by cases e1; exact ⟨rfl, _, rfl, fun A1 hA1 => by rw [hl] at hA1; cases hA1; rfl⟩)) ?_ (live hl) (shares_sh_mem hsh) hc (hr.usd fun d _ h => h))), ?_, hK⟩
  · obtain ⟨x, hx, h5⟩ := h3 k rfl rfl
    refine ⟨x, hx, ?_⟩
    rcases h5 with ⟨A, hA, h5⟩ | h5
    · rw [hl] at hA; cases hA; exact .inl h5
    · exact .inr h5
  · rw [hab, shares_up]; rfl

/-- What may come of an operation whose results are known by a property. -/
def OutE (P : Program) (T : Tys) (R : List Nat) (o : Oper) (σ : St) (K : St → Prop) : Prop :=
  Out P T R o σ K ∨ ∃ E : Ef → Prop, DEff P T o σ.ab E ∧ ∀ e, E e → ∃ σ', σ'.ab = σ.ab.eff o.dst e ∧ K σ'

theorem dcallK_out {o : Oper} {σ : St} {f : FuncId} {args : Array Operand} {tys : Array TypeId} (ho : o.op = .call { callee := .value (.func f), args, argTypes := tys }) {K : St → Prop} (h : dcallK P σ o.dst f args.toList K) : OutE P T R o σ K := by
  unfold dcallK at h
  obtain ⟨as, ks, lo, h1, h2, h3, h4⟩ := largs_spec h
  split at h1
  · rename_i k
    split at h1
    case h_2 => exact h1.elim
    rename_i e sz xs hl hsh
    replace h1 := h1.out
    obtain ⟨R0, hc, h1⟩ := h1
    refine .inr ⟨fun e => ∃ σ', σ'.ab = σ.ab.eff o.dst e ∧ K σ', ?_, fun e h => h⟩
    refine .lcall (.func f) args tys f as ks k ⟨e, sz, xs⟩ R0 ho rfl (h4 k (some ⟨e, sz, xs⟩) (fun k1 e1 => by cases e1; exact ⟨rfl, _, rfl, fun A1 hA1 => by rw [hl] at hA1; cases hA1; rfl⟩)) (live hl) (shares_sh_mem hsh) hc (fun r xs' hR => ?_)
    obtain ⟨s, al, σ', hr, hab, hK⟩ := resPut_spec (h1 r xs' hR)
    have hup : (⟨σ.s, (k, some ⟨e, sz, xs'⟩) :: σ.c, σ.sh⟩ : St).ab = σ.ab.up k ⟨e, sz, xs'⟩ := by
      have := ab_up σ k ⟨e, sz, xs'⟩ [] (by rw [hl]; rfl)
      simpa [Ab.shares] using this
    rw [hup] at hr hab
    exact ⟨s, al, hr.usd fun d _ h => h, σ', by rw [hab, shares_up]; rfl, hK⟩
  · replace h1 := h1.out
    obtain ⟨R0, hc, h1⟩ := h1
    refine .inr ⟨fun e => ∃ σ', σ'.ab = σ.ab.eff o.dst e ∧ K σ', ?_, fun e h => h⟩
    refine .pcall (.func f) args tys f as ks R0 ho rfl (h4 0 none (fun k1 e1 => by cases e1)) hc (fun r xs' hR => ?_)
    obtain ⟨s, al, σ', hr, hab, hK⟩ := resPut_spec (h1 r xs' hR)
    exact ⟨s, al, hr, σ', by rw [hab]; rfl, hK⟩

theorem margs_spec {σ : St} : ∀ {l : List Operand} {K : List A2 → List Nat → Nat → Arr → Prop}, margsK σ l K → ∃ as ks k A, K as ks k A ∧ lkC k σ.c = some (some A) ∧ ToLs σ.ab k (some A) (l.map σ.ab.val) as ks ∧ ∃ p ∈ l, refS (σ.ab.val p) k
  | [], K, h => h.elim
  | [x], K, h => by
    unfold margsK at h
    split at h
    case h_2 => exact h.elim
    rename_i k m hv
    rw [valS_ab] at hv
    split at h
    case h_2 => exact h.elim
    rename_i e sz xs hA
    replace h := h.out
    refine ⟨[.lv], [], k, ⟨e, sz, xs⟩, h.2, hA, ?_, x, List.mem_singleton.2 rfl, by rw [hv]; rfl⟩
    have : ToL σ.ab k (some ⟨e, sz, xs⟩) (σ.ab.val x) .lv [] := by rw [hv]; exact .lv m _ rfl h.1
    exact .cons this .nil
  | x :: y :: r, K, h => by
    have plain : ∀ (a : A2) (j : List Nat), (∀ k A, ToL σ.ab k A (σ.ab.val x) a j) → margsK σ (y :: r) (fun as ks k A => K (a :: as) (j ++ ks) k A) → ∃ as ks k A, K as ks k A ∧ lkC k σ.c = some (some A) ∧ ToLs σ.ab k (some A) ((x :: y :: r).map σ.ab.val) as ks ∧ ∃ p ∈ x :: y :: r, refS (σ.ab.val p) k := fun a j ha h => by
      obtain ⟨as, ks, k, A, h1, h2, h3, p, hp, hr⟩ := margs_spec h
      exact ⟨a :: as, j ++ ks, k, A, h1, h2, .cons (ha k (some A)) h3, p, List.mem_cons_of_mem _ hp, hr⟩
    unfold margsK at h
    split at h
    · rename_i f hv
      rw [valS_ab] at hv
      exact plain (.fn f) [] (fun k A => by rw [hv]; exact .fn f) h
    · rename_i k m hv
      rw [valS_ab] at hv
      obtain ⟨d, j, h5, h⟩ := toDS_spec h
      exact plain (.d d) j (fun k' A' => by rw [hv]; exact .d h5) h
    · rename_i z hv
      rw [valS_ab] at hv
      exact plain (.d z) [] (fun k A => by rw [hv]; exact .d (.d z)) h
    · rename_i hv
      rw [valS_ab] at hv
      exact plain (.d (.sl [])) [] (fun k A => by rw [hv]; exact .d .nil) h
    · exact h.elim
theorem shares_kill (τ : Ab) (k : Nat) (ks : List Nat) : (τ.kill k).shares ks = (τ.shares ks).kill k := by
  induction ks generalizing τ with
  | nil => rfl
  | cons j ks ih => exact ih (τ.share j)
theorem ab_kill (σ : St) (k : Nat) (hk : (lkC k σ.c).isSome = true) : (⟨σ.s, (k, none) :: σ.c, σ.sh⟩ : St).ab = σ.ab.kill k := by
  refine Ab.ext' rfl (funext fun j => ?_) rfl (funext fun j => ?_)
  · simp only [Ab.kill, St.ab, lkC_cons]
    by_cases hj : j = k
    · simp [hj]
    · simp only [hj, if_false]
  · simp only [Ab.kill, St.ab, lkC_cons]
    by_cases hj : j = k
    · subst hj; simp only [if_true]; exact hk.symm
    · simp only [hj, if_false]
theorem mcallK_out {o : Oper} {σ : St} {f : FuncId} {args : Array Operand} {tys : Array TypeId} (ho : o.op = .call { callee := .value (.func f), args, argTypes := tys }) {K : St → Prop} (h : mcallK P σ o.dst f args.toList K) : OutE P T R o σ K := by
  unfold mcallK at h
  obtain ⟨as, ks, k, A, h1, hl, h3, _⟩ := margs_spec h
  split at h1
  case h_2 => exact h1.elim
  rename_i hsh
  replace h1 := h1.out
  obtain ⟨⟨e, sz, xs⟩, rest, hc, h1⟩ := h1
  dsimp only at h1
  have hk : (lkC k σ.c).isSome = true := by rw [hl]; rfl
  refine .inr ⟨fun e' => ∃ σ', σ'.ab = σ.ab.eff o.dst e' ∧ K σ', ?_, fun e h => h⟩
  cases rest with
  | nil =>
    obtain ⟨d, σ', hd, hu, hab, hK⟩ := newK_ab h1
    rw [ab_kill σ k hk] at hu hab
    refine .mcall (.func f) args tys f as ks k d A ⟨e, sz, xs⟩ [] ho rfl h3 (live hl) (shares_sh_mem hsh) hd hu hc ⟨σ', ?_, hK⟩
    rw [hab, shares_kill, hd]
    rfl
  | cons r0 rest =>
    dsimp only at h1
    rw [mapD_eq] at h1
    obtain ⟨d, σ', hd, hu, hab, hK⟩ := newK_ab h1
    rw [ab_kill σ k hk] at hu hab
    refine .mcall (.func f) args tys f as ks k d A ⟨e, sz, xs⟩ (r0 :: rest) ho rfl h3 (live hl) (shares_sh_mem hsh) hd hu hc ⟨σ', ?_, hK⟩
    rw [hab, shares_kill, hd, List.map_map]
    rfl

theorem refSK_spec {σ : St} {z : D} {K : S → Prop} (h : refSK σ z K) : ∃ s, RefS z s ∧ K s := by
  unfold refSK at h
  split at h
  · split at h
    · exact ⟨_, .av _ _, h⟩
    · exact ⟨_, .fv _ _, h⟩
  · exact ⟨_, .d _ rfl, h⟩
  · exact ⟨_, .d _ rfl, h⟩
  · exact h.elim

theorem dOp_out (hT : TOK P T) {o : Oper} {σ : St} {K : St → Prop} (h : dOp P T R o σ K) : Out P T R o σ K := by
  have hv := valS_ab σ
  unfold dOp at h
  split at h
  · rename_i x ho
    rw [forceS_eq, hv] at h
    exact putS_out h (.pure _ (by rw [ho]; exact .move x))
  · rename_i x ho
    rw [forceS_eq, hv] at h
    exact putS_out h (.pure _ (by rw [ho]; exact .assign x))
  · rename_i c a b ho
    split at h
    · rename_i t ht
      rw [hv] at ht
      have hp := PEff.pick (P := P) (T := T) c a b t ht
      rw [forceS_eq, forceS_eq, hv, hv] at h
      cases t
      · exact putS_out (show putS σ o.dst (σ.ab.val b) K from h) (.pure _ (by rw [ho]; exact hp))
      · exact putS_out (show putS σ o.dst (σ.ab.val a) K from h) (.pure _ (by rw [ho]; exact hp))
    · exact h.elim
  · rename_i op t x y yt ho
    split at h
    · rename_i dx dy hx hy
      rw [hv] at hx hy
      unfold binK at h
      split at h
      · rename_i a b
        obtain ⟨r, hb, h⟩ := binI_spec (P := P) t h
        exact putS_out h (.pure _ (by rw [ho]; exact .bin op t x y yt _ _ r hx hy hb))
      · rename_i a b
        obtain ⟨r, hb, h⟩ := binI_spec (P := P) t h
        exact putS_out h (.pure _ (by rw [ho]; exact .bin op t x y yt _ _ r hx hy hb))
      · rename_i a b
        split at h
        · replace h := h.out
          exact putS_out h.2 (.pure _ (by rw [ho]; exact .bin _ t x y yt _ _ _ hx hy ⟨rfl, fun x y w => by
            have : ¬ b < 0 := by have := h.1; omega
            simp [eqGuard, binOp_shr, Op.shift, shrI, this]⟩))
        · exact h.elim
      · rename_i a b
        obtain ⟨r, hb, h⟩ := binS_spec (P := P) t h
        exact putS_out h (.pure _ (by rw [ho]; exact .bin op t x y yt _ _ r hx hy hb))
      · rename_i a b
        split at h
        · rename_i hty
          have := (hT _ (tyOf_mem hty)).und
          simp only at this
          obtain ⟨r, hb, h⟩ := binB_spec (P := P) this h
          exact putS_out h (.pure _ (by rw [ho]; exact .bin op t x y yt _ _ r hx hy hb))
        · exact h.elim
      · rename_i fs gs
        split at h
        · rename_i Fs hty
          split at h
          · obtain ⟨b, he, h⟩ := eqsK_spec h
            exact putS_out h (.pure _ (by rw [ho]; exact .eqA t x y yt Fs fs gs b (tyOf_mem hty) hx hy he))
          · obtain ⟨b, he, h⟩ := eqsK_spec h
            exact putS_out h (.pure _ (by rw [ho]; exact .neA t x y yt Fs fs gs b (tyOf_mem hty) hx hy he))
          · exact h.elim
        · exact h.elim
      · exact h.elim
    · exact h.elim
  · rename_i op t x ho
    split at h
    · rename_i dx hx
      rw [hv] at hx
      unfold unK at h
      split at h
      · rename_i b
        exact putS_out h (.pure _ (by rw [ho]; exact .un .not t x _ _ hx ⟨rfl, fun P w => by simp [Op.unary]⟩))
      · rename_i a
        replace h := h.out
        exact putS_out h (.pure _ (by rw [ho]; exact .un .neg t x _ _ hx ⟨rfl, fun P w => by simp [Op.unary, Op.intArith]⟩))
      · exact h.elim
    · exact h.elim
  · rename_i t ho
    split at h
    · rename_i ty hty
      split at h
      · exact h.elim
      · rename_i m hm
        rw [zeroTy_eq] at h
        exact newK_out h fun d hd hu => .alloc t ty d ho hd hu (tyOf_mem hty) (by omega)
    · exact h.elim
  · rename_i t x ho
    obtain ⟨y, ks, h1, h⟩ := toDS_spec h
    rw [hv] at h1
    split at h
    · exact h.elim
    · rename_i m hm
      exact newK_out h fun d hd hu => .box t x y ks d ho hd hu h1 (by omega)
  · rename_i t parts ho
    split at h
    · rename_i Fs hty
      obtain ⟨ds, ks, h1, h⟩ := partsK_spec h
      split at h
      · rename_i hcell
        rw [zerosF_eq] at h
        obtain ⟨h2, h⟩ := setsK_spec (by rw [h1.len]; simp) h
        exact putSh_out h (.build t parts Fs ds ks ho (tyOf_mem hty) h1 (List.all_eq_true.1 hcell) (fun p hp => by simpa using h2 p hp))
      · exact h.elim
    · exact h.elim
  · rename_i t len parts ho
    split at h
    · rename_i e hty
      split at h
      · rename_i ety hety
        obtain ⟨ds, ks, h1, h⟩ := partsK_spec h
        split at h
        · rename_i m hall hw hle
          rw [zeroTy_eq] at h
          obtain ⟨h2, h⟩ := setsK_spec (by rw [h1.len]; simp) h
          exact newK_out h fun d hd hu => .buildSlice t len parts e ety ds ks d ho hd hu (tyOf_mem hty) (tyOf_mem hety) h1 (fun x hx => (beq_iff _ _).1 (List.all_eq_true.1 hall x hx)) (fun p hp => by simpa using h2 p hp) (by omega)
            (Nat.le_of_ble_eq_true hle)
        · exact h.elim
      · exact h.elim
    · exact h.elim
  · rename_i t x y ho
    split at h
    · rename_i e hty
      split at h
      · rename_i ety hety
        obtain ⟨a, ha, h⟩ := intOf_spec h
        obtain ⟨b, hb, h⟩ := intOf_spec h
        rw [hv] at ha hb
        replace h := h.out
        obtain ⟨m, rfl, rfl, hm, h⟩ := h
        split at h
        · exact h.elim
        · rename_i m' hm'
          rw [zeroTy_eq] at h
          exact newK_out h fun d hd hu => .makeSlice t x y m _ _ e ety d ho hd hu (tyOf_mem hty) (tyOf_mem hety) ha hb hm (by omega)
      · exact h.elim
    · exact h.elim
  · rename_i t x ho
    split at h
    · rename_i ty hty
      split at h
      · rename_i y hx
        rw [hv] at hx
        obtain ⟨hf, h⟩ := fitK_iff.1 h
        exact putS_out h (.loadE t x y ty ho (tyOf_mem hty) hx hf)
      · rename_i k i hx
        rw [hv] at hx
        split at h
        · rename_i A hl
          obtain ⟨y, hy, h⟩ := getK_iff.1 h
          obtain ⟨hf, h⟩ := fitK_iff.1 h
          exact putS_out h (.loadA t x k i A y ty ho (tyOf_mem hty) hx (live hl) hy hf)
        · exact h.elim
      · rename_i k i f hx
        rw [hv] at hx
        split at h
        · rename_i A hl
          obtain ⟨y, hy, h⟩ := getK_iff.1 h
          split at h
          · obtain ⟨z, hz, h⟩ := getK_iff.1 h
            obtain ⟨hf, h⟩ := fitK_iff.1 h
            exact putS_out h (.loadF t x k i f A _ z ty ho (tyOf_mem hty) hx (live hl) hy hz hf)
          · exact h.elim
        · exact h.elim
      · exact h.elim
    · exact h.elim
  · rename_i t x y ho
    split at h
    · rename_i ty hty
      split at h
      · rename_i k i hx
        rw [hv] at hx
        obtain ⟨z, ks, hy, h⟩ := toDS_spec h
        rw [hv] at hy
        split at h
        · rename_i e sz xs hl hsh
          obtain ⟨e1, h⟩ := beqK_iff.1 h
          obtain ⟨e2, h⟩ := beqK_iff.1 h
          obtain ⟨hi, h⟩ := setK_iff.1 h
          exact up_out (by rw [hl]; rfl) h (.storeA t x y k i ⟨e, sz, xs⟩ z ks ty ho (tyOf_mem hty) hx (live hl) hy (shares_sh_mem hsh) hi e1 e2)
        · exact h.elim
      · rename_i k i f hx
        rw [hv] at hx
        obtain ⟨z, ks, hy, h⟩ := toDS_spec h
        rw [hv] at hy
        split at h
        · rename_i e sz xs hl hsh hz
          obtain ⟨e1, h⟩ := beqK_iff.1 h
          obtain ⟨w, hw, h⟩ := getK_iff.1 h
          split at h
          · rename_i fs
            obtain ⟨hf, h⟩ := setK_iff.1 h
            obtain ⟨hi, h⟩ := setK_iff.1 h
            exact up_out (by rw [hl]; rfl) h (.storeF t x y k i f ⟨e, sz, xs⟩ fs z ks ty ho (tyOf_mem hty) hx (live hl) hy (shares_sh_mem hsh) hw hf hz e1)
          · exact h.elim
        · exact h.elim
      · exact h.elim
    · exact h.elim
  · rename_i t x f ho
    split at h
    · rename_i Fs hty
      split at h
      · rename_i fs hx
        rw [hv] at hx
        obtain ⟨hl, h⟩ := beqK_iff.1 h
        obtain ⟨z, hz, h⟩ := getK_iff.1 h
        exact putS_out h (.pure _ (by rw [ho]; exact .fieldE t x f Fs fs z (tyOf_mem hty) hl hx hz))
      · rename_i k i hx
        rw [hv] at hx
        split at h
        · rename_i A hl hlt
          exact putS_out h (.fieldA t x f Fs k i A ho (tyOf_mem hty) (Nat.le_of_ble_eq_true hlt) hx (live hl))
        · exact h.elim
      · rename_i k i hx
        rw [hv] at hx
        split at h
        · rename_i hlt
          exact putS_out h (.pure _ (by rw [ho]; exact .fieldF t x f Fs k i (tyOf_mem hty) (Nat.le_of_ble_eq_true hlt) hx))
        · exact h.elim
      · exact h.elim
    · exact h.elim
  · rename_i t x f ho
    split at h
    · rename_i Fs hty
      split at h
      · rename_i fs hx
        rw [hv] at hx
        obtain ⟨hl, h⟩ := beqK_iff.1 h
        obtain ⟨z, hz, h⟩ := getK_iff.1 h
        exact putS_out h (.pure _ (by rw [ho]; exact .field t x f Fs fs z (tyOf_mem hty) hl hx hz))
      · rename_i fs hx
        rw [hv] at hx
        obtain ⟨hl, h⟩ := beqK_iff.1 h
        obtain ⟨z, hz, h⟩ := getK_iff.1 h
        obtain ⟨s, hs, h⟩ := refSK_spec h
        exact putS_out h (.pure _ (by rw [ho]; exact .fieldR t x f Fs fs z s (tyOf_mem hty) hl hx hz hs))
      · exact h.elim
    · exact h.elim
  · rename_i t x ix ho
    split at h
    · rename_i e hty
      split at h
      · rename_i ety hety
        split at h
        · rename_i xs hx
          rw [hv] at hx
          obtain ⟨j, hj, h⟩ := intOf_spec h
          rw [hv] at hj
          replace h := h.out
          obtain ⟨h0, y, hy, h⟩ := h
          obtain ⟨hw, h⟩ := beqK_iff.1 h
          exact putS_out h (.pure _ (by rw [ho]; exact .indexD t x ix e ety xs _ j y (tyOf_mem hty) (tyOf_mem hety) hx hj h0 hy hw))
        · rename_i k m hx
          rw [hv] at hx
          split at h
          · rename_i A hl
            obtain ⟨j, hj, h⟩ := intOf_spec h
            rw [hv] at hj
            obtain ⟨hw, h⟩ := beqK_iff.1 h
            replace h := h.out
            obtain ⟨i, rfl, hi, h⟩ := h
            exact putS_out h (.indexA t x ix e ety k m i _ A ho (tyOf_mem hty) (tyOf_mem hety) hx (live hl) hw hj hi)
          · exact h.elim
        · exact h.elim
      · exact h.elim
    · exact h.elim
  · rename_i t x ix ho
    split at h
    · rename_i hty
      split at h
      · rename_i s hx
        rw [hv] at hx
        obtain ⟨j, hj, h⟩ := intOf_spec h
        rw [hv] at hj
        replace h := h.out
        obtain ⟨h0, b, hb, h⟩ := h
        exact putS_out h (.pure _ (by rw [ho]; exact .indexS t x ix s _ j b (tyOf_mem hty) hx hj h0 hb))
      · exact h.elim
    · exact h.elim
  · rename_i x i ho
    split at h
    · rename_i xs hx
      rw [hv] at hx
      obtain ⟨r, hr, h⟩ := getK_iff.1 h
      split at h
      · exact putS_out h (.pure _ (by rw [ho]; exact .extract x i xs _ hx hr))
      · exact putS_out h (.pure _ (by rw [ho]; exact .extract x i xs _ hx hr))
      · exact putS_out h (.pure _ (by rw [ho]; exact .extract x i xs _ hx hr))
    · exact h.elim
  · rename_i fn first captured ho
    split at h
    · rename_i f hf hc
      have e1 : first = #[] := by simpa using hf
      have e2 : captured = #[] := by simpa using hc
      subst e1; subst e2
      exact putS_out h (.pure _ (by rw [ho]; exact .mkfn f))
    · exact h.elim
  · rename_i fx args tys ho
    split at h
    · rename_i f
      split at h
      · rename_i hL
        exact lcallK_out ho hL h
      · exact callK_out ho h
    · exact callK_out ho h
  · rename_i x ho
    split at h
    · rename_i k i hx
      rw [hv] at hx
      split at h
      · rename_i A hl
        exact putS_out h (.nilA x k i A ho hx (live hl))
      · exact h.elim
    · exact h.elim
  · rename_i src dst x ho
    split at h
    · rename_i sty kd m hs hd hx
      rw [hv] at hx
      have hu := (hT _ (tyOf_mem hd)).und
      simp only at hu
      exact putS_out h.out (.pure _ (by rw [ho]; exact .conv src dst x kd .i64 m sty (tyOf_mem hs) hu hx))
    · rename_i sty kd m hs hd hx
      rw [hv] at hx
      have hu := (hT _ (tyOf_mem hd)).und
      simp only at hu
      exact putS_out h.out (.pure _ (by rw [ho]; exact .conv src dst x kd .u8 m sty (tyOf_mem hs) hu hx))
    · rename_i e hs hd
      split at h
      · rename_i he
        obtain ⟨ys, hy, h⟩ := contK_spec h
        obtain ⟨bs, hb, h'⟩ := bytesK_spec h
        rw [hb, hv] at hy
        exact putS_out h' (.convS src dst e x bs ho (tyOf_mem hs) (tyOf_mem he) (tyOf_mem hd) hy)
      · exact h.elim
    · exact h.elim
  · rename_i args tys ho
    split at h
    · rename_i x t hargs htys
      have e1 : args = #[x] := by apply Array.toList_inj.1; simpa using hargs
      have e2 : tys = #[t] := by apply Array.toList_inj.1; simpa using htys
      subst e1; subst e2
      unfold lenK at h
      split at h
      · rename_i xs e hx hty
        rw [hv] at hx
        exact putS_out h (.pure _ (by rw [ho]; exact .lenD t x e xs (tyOf_mem hty) hx))
      · rename_i e hx hty
        rw [hv] at hx
        exact putS_out h (.pure _ (by rw [ho]; exact .lenN t x e (tyOf_mem hty) hx))
      · rename_i b hx hty
        rw [hv] at hx
        exact putS_out h (.pure _ (by rw [ho]; exact .lenS t x b (tyOf_mem hty) hx))
      · rename_i k m e hx hty
        rw [hv] at hx
        exact putS_out h (.lenA t x e k m ho (tyOf_mem hty) hx)
      · rename_i k m e hx hty
        rw [hv] at hx
        exact putS_out h (.pure _ (by rw [ho]; exact .lenF t x e k m (tyOf_mem hty) hx))
      · exact h.elim
    · exact h.elim
  · rename_i args tys ho
    split at h
    · rename_i x y hargs
      have e1 : args = #[x, y] := by apply Array.toList_inj.1; simpa using hargs
      subst e1
      obtain ⟨a, ha, h⟩ := intOf_spec h
      obtain ⟨b, hb, h⟩ := intOf_spec h
      rw [hv] at ha hb
      have e : (if b < a then b else a) = Min.min a b := by omega
      exact putS_out h (.pure _ (by rw [ho]; have := PEff.min (P := P) (T := T) (ν := σ.ab.val) x y tys a b ha hb; rwa [e] at this))
    · exact h.elim
  · rename_i args tys ho
    split at h
    · rename_i x y hargs
      have e1 : args = #[x, y] := by apply Array.toList_inj.1; simpa using hargs
      subst e1
      obtain ⟨a, ha, h⟩ := intOf_spec h
      obtain ⟨b, hb, h⟩ := intOf_spec h
      rw [hv] at ha hb
      have e : (if b > a then b else a) = Max.max a b := by omega
      exact putS_out h (.pure _ (by rw [ho]; have := PEff.max (P := P) (T := T) (ν := σ.ab.val) x y tys a b ha hb; rwa [e] at this))
    · exact h.elim
  · rename_i args tys ho
    split at h
    · rename_i x y t t' hargs htys
      obtain ⟨e0, h9⟩ := beqK_iff.1 h
      subst e0
      have e1 : args = #[x, y] := by apply Array.toList_inj.1; simpa using hargs
      have e2 : tys = #[t, t] := by apply Array.toList_inj.1; simpa using htys
      subst e1; subst e2
      exact appK_out hT ho h9
    · exact h.elim
  · rename_i t x lo hi mx ho
    split at h
    · rename_i e hty
      split at h
      · rename_i ety hety
        split at h
        · rename_i xs hx
          rw [hv] at hx
          split at h
          · replace h := h.out
            obtain ⟨l, hh, h1, h2, h3, h4, h5, zs, rfl, h⟩ := h
            exact putS_out h (.pure _ (by rw [ho]; exact .sliceD t x none none e ety xs l hh (tyOf_mem hty) (tyOf_mem hety) hx h1 h2 h3 h4 h5))
          · rename_i lo
            obtain ⟨a, ha, h⟩ := intOf_spec h
            rw [hv] at ha
            replace h := h.out
            obtain ⟨l, hh, h1, h2, h3, h4, h5, zs, rfl, h⟩ := h
            exact putS_out h (.pure _ (by rw [ho]; exact .sliceD t x (some lo) none e ety xs l hh (tyOf_mem hty) (tyOf_mem hety) hx ⟨_, by rw [ha]; simp only at h1; rw [h1]⟩ h2 h3 h4 h5))
          · rename_i hi
            obtain ⟨b, hb, h⟩ := intOf_spec h
            rw [hv] at hb
            replace h := h.out
            obtain ⟨l, hh, h1, h2, h3, h4, h5, zs, rfl, h⟩ := h
            exact putS_out h (.pure _ (by rw [ho]; exact .sliceD t x none (some hi) e ety xs l hh (tyOf_mem hty) (tyOf_mem hety) hx h1 ⟨_, by rw [hb]; simp only at h2; rw [h2]⟩ h3 h4 h5))
          · rename_i lo hi
            obtain ⟨a, ha, h⟩ := intOf_spec h
            obtain ⟨b, hb, h⟩ := intOf_spec h
            rw [hv] at ha hb
            replace h := h.out
            obtain ⟨l, hh, h1, h2, h3, h4, h5, zs, rfl, h⟩ := h
            exact putS_out h (.pure _ (by rw [ho]; exact .sliceD t x (some lo) (some hi) e ety xs l hh (tyOf_mem hty) (tyOf_mem hety) hx ⟨_, by rw [ha]; simp only at h1; rw [h1]⟩ ⟨_, by rw [hb]; simp only at h2; rw [h2]⟩ h3 h4 h5))
        · rename_i k m hx
          rw [hv] at hx
          split at h
          · rename_i A hi hl
            obtain ⟨b, hb, h⟩ := intOf_spec h
            rw [hv] at hb
            replace h := h.out
            obtain ⟨hh, h1, h2, h⟩ := h
            exact putS_out h (.sliceA t x (some hi) e ety k m hh A ho (tyOf_mem hty) (tyOf_mem hety) hx (live hl) ⟨_, by rw [hb]; simp only at h1; rw [h1]⟩ h2)
          · rename_i A lo hl
            obtain ⟨a, ha, h⟩ := intOf_spec h
            rw [hv] at ha
            obtain ⟨hsz, h⟩ := beqK_iff.1 h
            obtain ⟨l, hh, h1, h2, h3, h4, h⟩ := h.out
            exact putS_out h (.sliceW t x lo none e ety k m l hh A ho (tyOf_mem hty) (tyOf_mem hety) hx (live hl) hsz ⟨_, by rw [ha, h1]⟩ h2 h3 h4)
          · rename_i A lo hi hl
            obtain ⟨a, ha, h⟩ := intOf_spec h
            obtain ⟨b, hb, h⟩ := intOf_spec h
            rw [hv] at ha hb
            obtain ⟨hsz, h⟩ := beqK_iff.1 h
            obtain ⟨l, hh, h1, h2, h3, h4, h⟩ := h.out
            exact putS_out h (.sliceW t x lo (some hi) e ety k m l hh A ho (tyOf_mem hty) (tyOf_mem hety) hx (live hl) hsz ⟨_, by rw [ha, h1]⟩ ⟨_, by rw [hb]; simp only at h2; rw [h2]⟩ h3 h4)
          · exact h.elim
        · exact h.elim
      · exact h.elim
    · exact h.elim
  · exact h.elim
theorem dOpE_out (hT : TOK P T) {o : Oper} {σ : St} {K : St → Prop} (h : dOpE P T R o σ K) : OutE P T R o σ K := by
  unfold dOpE at h
  split at h
  · rename_i f args tys ho
    split at h
    · exact dcallK_out ho h
    · split at h
      · exact mcallK_out ho h
      · exact .inl (dOp_out hT h)
  · exact .inl (dOp_out hT h)
end
end Go.DL

namespace Go.DL
open Go.RowKit

/-! ### The evaluator: operations on tree arrays -/
def treeK (σ : St) (k : Nat) (K : TypeId → Nat → List D → Prop) : Prop :=
  match lkS (1000000 + k) σ.s with
  | .fa ⟨e, sz, xs⟩ => K e sz xs
  | _ => False
/-- A new tree array in a slot of its own. -/
def newT (σ : St) (dst : Option Nat) (s : Nat → S) (e : TypeId) (sz : Nat) (xs : List D) (K : St → Prop) : Prop :=
  match dst, σ with
  | some d, ⟨ss, c, sh⟩ => (match lkC d c with
    | none => K ⟨(d, s d) :: (1000000 + d, .fa ⟨e, sz, xs⟩) :: ss, (d, none) :: c, sh⟩
    | some _ => False)
  | none, _ => False
/-- What is put into a cell of a tree array. -/
def toEK (σ : St) (s : S) (K : D → Prop) : Prop :=
  match s with
  | .d x => (match x.okE with
    | true => K x
    | false => False)
  | .nil => K (.sl [])
  | .av j m => (match lkC j σ.c with
    | some (some ⟨_, _, xs⟩) => NeedK (m = xs.length) (K (.ref j m))
    | _ => False)
  | .fv j m => treeK σ j fun _ _ xs => NeedK (m = xs.length) (K (.ref j m))
  | .dr fs => K (.agg fs)
  | _ => False
/-- A slice that a cell of array k owns is taken out. -/
def outK (R : List Nat) (t : TypeId) (σ : St) (dst : Option Nat) (k e sz e' sz' : Nat) (zs : List D) (xs' : Nat → (List D → Prop) → Prop) (K : St → Prop) : Prop :=
  match dst, σ with
  | some d, ⟨ss, c, sh⟩ => (match lkC d c with
    | none => (match memB (500000 + t) R with
      | true => NeedK (NoRefL zs) (xs' d fun ys => K ⟨(d, .fv d zs.length) :: (1000000 + k, .fa ⟨e, sz, ys⟩) :: (1000000 + d, .fa ⟨e', sz', zs⟩) :: ss, (d, none) :: c, sh⟩)
      | false => (match memB (700000 + t) R with
        | true => NeedK (plainL zs) (xs' d fun ys => K ⟨(d, .av d zs.length) :: (1000000 + k, .fa ⟨e, sz, ys⟩) :: ss, (d, some ⟨e', sz', zs⟩) :: c, sh⟩)
        | false => False))
    | some _ => False)
  | none, _ => False
/-- The field of a struct that owns its row. -/
def ownAt : List D → Option Nat
  | [] => none
  | .own _ _ _ :: _ => some 0
  | _ :: r => (match ownAt r with
    | some i => some (i + 1)
    | none => none)
def outSK (R : List Nat) (t : TypeId) (σ : St) (dst : Option Nat) (k e sz i : Nat) (xs fs : List D) (K : St → Prop) : Prop :=
  match ownAt fs with
  | none => (match fs.all okR with
    | true => putS σ dst (.dr fs) K
    | false => False)
  | some f => getK fs f fun z => (match z with
    | .own e' sz' zs => (match dst, σ with
      | some d, ⟨ss, c, sh⟩ => (match lkC d c, memB (500000 + t) R with
        | none, true => NeedK (NoRefL zs) (setK fs f (.ref d zs.length) fun fs' => (match fs'.all okR with
          | true => setK xs i (.agg fs') fun ys => K ⟨(d, .dr fs') :: (1000000 + k, .fa ⟨e, sz, ys⟩) :: (1000000 + d, .fa ⟨e', sz', zs⟩) :: ss, (d, none) :: c, sh⟩
          | false => False))
        | _, _ => False)
      | none, _ => False)
    | _ => False)
def loadX (R : List Nat) (t : TypeId) (ty : Ty) (σ : St) (dst : Option Nat) (s : S) (K : St → Prop) : Prop :=
  match s with
  | .ff k i f => treeK σ k fun e sz xs => getK xs i fun y => (match y with
    | .agg fs => getK fs f fun z => fitK ty z (match z with
      | .own e' sz' zs => outK R t σ dst k e sz e' sz' zs (fun d K => setK fs f (.ref d zs.length) fun fs' => setK xs i (.agg fs') K) K
      | z => refSK σ z fun s => putS σ dst s K)
    | _ => False)
  | .fe k i => treeK σ k fun e sz xs => getK xs i fun z => fitK ty z (match z with
    | .own e' sz' zs => outK R t σ dst k e sz e' sz' zs (fun d K => setK xs i (.ref d zs.length) K) K
    | .agg fs => outSK R t σ dst k e sz i xs fs K
    | z => refSK σ z fun s => putS σ dst s K)
  | _ => False
def storeX (ty : Ty) (σ : St) (dst : Option Nat) (s v : S) (K : St → Prop) : Prop :=
  match s with
  | .ff k i f => toEK σ v fun z => treeK σ k fun e sz xs => beqK ty.width 1 (getK xs i fun y => (match y with
    | .agg fs => (match z.isCell with
      | true => setK fs f z fun fs' => setK xs i (.agg fs') fun ys => (match dst, σ with
        | none, ⟨ss, c, sh⟩ => K ⟨(1000000 + k, .fa ⟨e, sz, ys⟩) :: ss, c, sh⟩
        | some d, ⟨ss, c, sh⟩ => K ⟨(d, .un) :: (1000000 + k, .fa ⟨e, sz, ys⟩) :: ss, c, sh⟩)
      | false => False)
    | _ => False))
  | .fe k i => toEK σ v fun z => treeK σ k fun e sz xs => beqK ty.width sz (beqK z.width sz (setK xs i z fun ys => (match dst, σ with
    | none, ⟨ss, c, sh⟩ => K ⟨(1000000 + k, .fa ⟨e, sz, ys⟩) :: ss, c, sh⟩
    | some d, ⟨ss, c, sh⟩ => K ⟨(d, .un) :: (1000000 + k, .fa ⟨e, sz, ys⟩) :: ss, c, sh⟩)))
  | _ => False
/-- What is appended. -/
def contX (σ : St) (s : S) (K : List D → Prop) : Prop :=
  match s with
  | .d (.sl xs) => NeedK (plainL xs) (K xs)
  | .nil => K []
  | .av j m => (match lkC j σ.c with
    | some (some ⟨_, _, xs⟩) => takeK m xs fun ys => NeedK (plainL ys) (K ys)
    | _ => False)
  | .fv j m => treeK σ j fun _ _ xs => NeedK (m = xs.length) (NeedK (∀ d ∈ fl xs, okR d = true) (K xs))
  | _ => False
def appX (T : Tys) (σ : St) (dst : Option Nat) (t : TypeId) (k m : Nat) (y : S) (K : St → Prop) : Prop :=
  match tyOf t T with
  | some (.sl e) => (match tyOf e T with
    | some ety => treeK σ k fun e' sz xs => beqK e' e (beqK ety.width sz (NeedK (m = xs.length) (contX σ y fun ys => AppK xs m ys ety.width fun n xs' => (match dst, σ with
      | some d, ⟨ss, c, sh⟩ => (match lkC d c with
        | none => K ⟨(d, .fv d n) :: (1000000 + k, .junk) :: (1000000 + d, .fa ⟨e', sz, xs'⟩) :: ss, (d, none) :: c, sh⟩
        | some _ => False)
      | none, _ => False))))
    | none => False)
  | _ => False

/-! ### Calls whose arguments are only read -/
structure ErK (xs : List D) (K : List D → Prop) : Prop where
  out : ∃ ys, CleanL xs ∧ eraseL xs = ys ∧ K ys
theorem ErK_intro {xs : List D} {K : List D → Prop} (ys : List D) (h1 : CleanL xs) (h2 : eraseL xs = ys) (hK : K ys) : ErK xs K := by refine ⟨?_⟩; exact ⟨ys, h1, h2, hK⟩
def erCK (σ : St) (z : D) (K : D → Prop) : Prop :=
  match z with
  | .sc v => K (.sc v)
  | .sl xs => K (.sl xs)
  | .ref k m => (match lkC k σ.c with
    | some (some ⟨_, _, xs⟩) => NeedK (m = xs.length) (K (.sl xs))
    | _ => treeK σ k fun _ _ xs => NeedK (m = xs.length) (ErK xs fun ys => K (.sl ys)))
  | _ => False
def erFsK (σ : St) : List D → (List D → Prop) → Prop
  | [], K => K []
  | z :: r, K => erCK σ z fun y => erFsK σ r fun ys => K (y :: ys)
def erK (σ : St) (s : S) (K : D → Prop) : Prop :=
  match s with
  | .d x => K x
  | .nil => K (.sl [])
  | .av j m => (match lkC j σ.c with
    | some (some ⟨_, _, xs⟩) => takeK m xs fun ys => K (.sl ys)
    | _ => False)
  | .fv k m => treeK σ k fun _ _ xs => NeedK (m = xs.length) (ErK xs fun ys => K (.sl ys))
  | .dr fs => erFsK σ fs fun ys => K (.agg ys)
  | _ => False
def erAK (σ : St) (s : S) (K : A1 → Prop) : Prop :=
  match s with
  | .fn f => K (.fn f)
  | s => erK σ s fun x => K (.d x)
def erArgsK (σ : St) : List Operand → (List A1 → Prop) → Prop
  | [], K => K []
  | x :: r, K => erAK σ (valS σ x) fun a => erArgsK σ r fun as => K (a :: as)
def freshN (c : List (Nat × Option Arr)) (b : Nat) : Nat → List D → Bool
  | _, [] => true
  | i, _ :: r => (match lkC (b + i) c with
    | none => freshN c b (i + 1) r
    | some _ => false)
def newFs (σ : St) (dst : Option Nat) (fs : List D) (K : St → Prop) : Prop :=
  match dst, σ with
  | some d, ⟨ss, c, sh⟩ => (match freshN c (200000 + 100 * d) 0 fs, fs.all okT, Nat.ble fs.length 100 with
    | true, true, true => K ⟨(d, .dr (trFs (200000 + 100 * d) 0 fs)) :: (trGh (200000 + 100 * d) 0 fs ++ ss), (trNu (200000 + 100 * d) 0 fs).map (fun k => (k, none)) ++ c, sh⟩
    | _, _, _ => False)
  | none, _ => False
def resX (σ : St) (dst : Option Nat) (r : Res) (K : St → Prop) : Prop :=
  match r with
  | .one (.d (.sc v)) => putS σ dst (.d (.sc v)) K
  | .tup (.d (.sc v)) rest => (match allSc rest with
    | true => mapD rest fun l => putS σ dst (.tup (.d (.sc v) :: l)) K
    | false => False)
  | .one (.fr ⟨e, sz, xs⟩) => newK σ dst [] (fun d => .av d xs.length) ⟨e, sz, xs⟩ K
  | .tup (.fr ⟨e, sz, xs⟩) rest => (match allSc rest with
    | true => mapD rest fun l => newK σ dst [] (fun d => .tup (.av d xs.length :: l)) ⟨e, sz, xs⟩ K
    | false => False)
  | .one (.tr (.own e sz xs)) => NeedK (CleanL xs) (newT σ dst (fun d => .fv d xs.length) e sz xs K)
  | .one (.tr (.agg fs)) => NeedK (∀ x ∈ fs, Clean x) (newFs σ dst fs K)
  | .tup (.tr (.own e sz xs)) rest => (match allSc rest with
    | true => NeedK (CleanL xs) (mapD rest fun l => newT σ dst (fun d => .tup (.fv d xs.length :: l)) e sz xs K)
    | false => False)
  | _ => False
def callX (P : Program) (σ : St) (dst : Option Nat) (f : FuncId) (args : List Operand) (K : St → Prop) : Prop :=
  erArgsK σ args fun as => CallK P f as fun r => resX σ dst r K

/-! ### Calls to which trees are lent -/
structure TCallK (P : Program) (f : FuncId) (as : List S) (Bs : List Arr) (K : Value → List Arr → Prop) : Prop where
  out : ∃ r Bs', TContract P f as Bs Bs' r ∧ K r Bs'
theorem TCallK_intro {P : Program} {f : FuncId} {as : List S} {Bs Bs' : List Arr} {r : Value} {K : Value → List Arr → Prop} (h : TContract P f as Bs Bs' r) (hK : K r Bs') : TCallK P f as Bs K := by refine ⟨?_⟩; exact ⟨r, Bs', h, hK⟩
/-- Array k is lent as well: its number. -/
def lendK (σ : St) (k : Nat) (ks : List Nat) (Bs : List Arr) (K : Nat → List Nat → List Arr → Prop) : Prop :=
  match memB k ks with
  | true => False
  | false => treeK σ k fun e sz xs => NeedK (NoRefL xs) (K (100000 + ks.length) (ks ++ [k]) (Bs ++ [⟨e, sz, xs⟩]))
def tfsK (σ : St) : List D → List Nat → List Arr → (List D → List Nat → List Arr → Prop) → Prop
  | [], ks, Bs, K => K [] ks Bs
  | .sc v :: r, ks, Bs, K => tfsK σ r ks Bs fun gs ks' Bs' => K (.sc v :: gs) ks' Bs'
  | .sl xs :: r, ks, Bs, K => tfsK σ r ks Bs fun gs ks' Bs' => K (.sl xs :: gs) ks' Bs'
  | .ref k m :: r, ks, Bs, K => lendK σ k ks Bs fun j ks1 Bs1 => tfsK σ r ks1 Bs1 fun gs ks' Bs' => K (.ref j m :: gs) ks' Bs'
  | _ :: _, _, _, _ => False
def targK (σ : St) (s : S) (ks : List Nat) (Bs : List Arr) (K : S → List Nat → List Arr → Prop) : Prop :=
  match s with
  | .d x => K (.d x) ks Bs
  | .fn f => K (.fn f) ks Bs
  | .fv k m => lendK σ k ks Bs fun j ks' Bs' => K (.fv j m) ks' Bs'
  | .dr fs => tfsK σ fs ks Bs fun gs ks' Bs' => K (.dr gs) ks' Bs'
  | _ => False
def targsK (σ : St) : List Operand → List Nat → List Arr → (List S → List Nat → List Arr → Prop) → Prop
  | [], ks, Bs, K => K [] ks Bs
  | x :: r, ks, Bs, K => targK σ (valS σ x) ks Bs fun s ks1 Bs1 => targsK σ r ks1 Bs1 fun ss ks' Bs' => K (s :: ss) ks' Bs'
def tcallK (P : Program) (σ : St) (dst : Option Nat) (f : FuncId) (args : List Operand) (K : St → Prop) : Prop :=
  targsK σ args [] [] fun as ks Bs => TCallK P f as Bs fun r Bs' => (match dst, σ with
    | some d, ⟨ss, c, sh⟩ => K ⟨(d, .d (.sc r)) :: (lentGh ks Bs' ++ ss), c, sh⟩
    | none, ⟨ss, c, sh⟩ => K ⟨lentGh ks Bs' ++ ss, c, sh⟩)

/-- Calls that are excepted, by the slot of their result. -/
def exB (dst : Option Nat) (R : List Nat) : Bool :=
  match dst with
  | some d => memB (10000000 + d) R
  | none => false
/-- Parts that are scalars. -/
def scPartsK (σ : St) : List (Nat × Operand) → (List Value → Prop) → Prop
  | [], K => K []
  | (_, x) :: r, K => (match valS σ x with
    | .d (.sc v) => scPartsK σ r fun vs => K (v :: vs)
    | _ => False)
def scLD (vs : List Value) (K : List D → Prop) : Prop :=
  match vs with
  | [] => K []
  | v :: r => scLD r fun ds => K (.sc v :: ds)
def zerosZ : List F → (List D → Prop) → Prop
  | [], K => K []
  | .int :: r, K => zerosZ r fun ds => K (.sc (.int .i64 0) :: ds)
  | .bool :: r, K => zerosZ r fun ds => K (.sc (.bool false) :: ds)
  | .str :: r, K => zerosZ r fun ds => K (.sc (.string ⟨#[]⟩) :: ds)
  | .sl :: r, K => zerosZ r fun ds => K (.sc (.slice none 0 0) :: ds)
theorem zerosZ_eq (fs : List F) (K : List D → Prop) : zerosZ fs K = K (fs.map fun f => .sc f.zeroV) := by
  induction fs generalizing K with
  | nil => rfl
  | cons f r ih => cases f <;> simp only [zerosZ, ih] <;> rfl
theorem scLD_eq (vs : List Value) (K : List D → Prop) : scLD vs K = K (vs.map .sc) := by
  induction vs generalizing K with
  | nil => rfl
  | cons v r ih => simp only [scLD, ih]; rfl
theorem scPartsK_spec {σ : St} : ∀ {ps : List (Nat × Operand)} {K : List Value → Prop}, scPartsK σ ps K → ∃ vs, ps.map (fun p => σ.ab.val p.2) = vs.map (fun v => S.d (.sc v)) ∧ K vs
  | [], K, h => ⟨[], rfl, h⟩
  | (i, x) :: r, K, h => by
    unfold scPartsK at h
    split at h
    · rename_i v hv
      rw [valS_ab] at hv
      obtain ⟨vs, h1, h2⟩ := scPartsK_spec h
      exact ⟨v :: vs, by rw [List.map_cons, List.map_cons, h1, hv], h2⟩
    · exact h.elim
/-- One operation; some are on tree arrays. -/
def dOpX (P : Program) (T : Tys) (R : List Nat) (o : Oper) (σ : St) (K : St → Prop) : Prop :=
  match o.op with
  | .alloc t => (match memB (400000 + t) R with
    | true => (match tyOf t T with
      | some ty => (match ty.width with
        | 0 => False
        | _ + 1 => zeroTy ty fun z => newT σ o.dst (fun d => .fe d 0) t ty.width [z] K)
      | none => False)
    | false => dOp P T R o σ K)
  | .box t x => (match memB (400000 + t) R with
    | true => toEK σ (valS σ x) fun z => (match z.width with
      | 0 => False
      | _ + 1 => newT σ o.dst (fun d => .fe d 0) t z.width [z] K)
    | false => dOp P T R o σ K)
  | .build t parts => (match memB (400000 + t) R with
    | true => (match tyOf t T with
      | some (.st Fs) => scPartsK σ parts.toList fun vs => scLD vs fun ds => zerosZ Fs fun zs => setsK parts.toList ds zs fun xs => putS σ o.dst (.d (.agg xs)) K
      | _ => False)
    | false => dOp P T R o σ K)
  | .buildSlice t len parts => (match memB (400000 + t) R with
    | true => (match tyOf t T with
      | some (.sl e) => (match tyOf e T with
        | some ety => (match ety.width, Nat.ble ety.width 16777216, len, parts.toList with
          | _ + 1, true, 0, [] => newT σ o.dst (fun d => .fv d 0) e ety.width [] K
          | _ + 1, true, 1, [(0, y)] => toEK σ (valS σ y) fun z => beqK z.width ety.width (newT σ o.dst (fun d => .fv d 1) e ety.width [z] K)
          | _, _, _, _ => False)
        | none => False)
      | _ => False)
    | false => dOp P T R o σ K)
  | .makeSlice t x y => (match memB (400000 + t) R with
    | true => (match tyOf t T with
      | some (.sl e) => (match tyOf e T with
        | some ety => intOf? (valS σ x) fun a => intOf? (valS σ y) fun b => MkK a b fun m => (match ety.width with
          | 0 => False
          | _ + 1 => zeroTy ety fun z => newT σ o.dst (fun d => .fv d m) e ety.width (List.replicate m z) K)
        | none => False)
      | _ => False)
    | false => dOp P T R o σ K)
  | .load t x => (match valS σ x with
    | .fe k i => (match tyOf t T with
      | some ty => loadX R t ty σ o.dst (.fe k i) K
      | none => False)
    | .ff k i f => (match tyOf t T with
      | some ty => loadX R t ty σ o.dst (.ff k i f) K
      | none => False)
    | _ => dOp P T R o σ K)
  | .store t x y => (match valS σ x with
    | .fe k i => (match tyOf t T with
      | some ty => storeX ty σ o.dst (.fe k i) (valS σ y) K
      | none => False)
    | .ff k i f => (match tyOf t T with
      | some ty => storeX ty σ o.dst (.ff k i f) (valS σ y) K
      | none => False)
    | _ => dOp P T R o σ K)
  | .indexAddr t x ix => (match valS σ x with
    | .fv k m => (match tyOf t T with
      | some (.sl e) => (match tyOf e T with
        | some ety => treeK σ k fun _ sz _ => intOf? (valS σ ix) fun j => beqK ety.width sz (IxA j m fun i => putS σ o.dst (.fe k i) K)
        | none => False)
      | _ => False)
    | _ => dOp P T R o σ K)
  | .call { callee := .builtin .append, args, argTypes } => (match args.toList, argTypes.toList with
    | [x, y], [t, t'] => (match valS σ x with
      | .fv k m => beqK t t' (appX T σ o.dst t k m (valS σ y) K)
      | _ => dOp P T R o σ K)
    | _, _ => False)
  | .call { callee := .value (.func f), args, .. } => (match memB (600000 + f) R with
    | true => (match exB o.dst R with
      | true => dOp P T R o σ K
      | false => (match memB (100000 + f) R with
        | true => tcallK P σ o.dst f args.toList K
        | false => callX P σ o.dst f args.toList K))
    | false => (match memB (800000 + f) R with
      | true => (match memB (100000 + f) R with
        | true => mcallK P σ o.dst f args.toList K
        | false => False)
      | false => dOp P T R o σ K))
  | _ => dOp P T R o σ K

section
variable {P : Program} {T : Tys} {R : List Nat}

def effS (σ : St) (dst : Option Nat) (s : S) (al : Option (Nat × Arr)) (gh : List (Nat × S)) (nu : List Nat) : St :=
  ⟨(match dst with | some d => (d, s) :: (gh ++ σ.s) | none => gh ++ σ.s), nu.map (fun k => (k, none)) ++ (match al with | some (k, A) => (k, some A) :: σ.c | none => σ.c), σ.sh⟩
theorem lkS_append (t : Nat) : ∀ (gh ss : List (Nat × S)), lkS t (gh ++ ss) = (lkG t gh).getD (lkS t ss)
  | [], ss => rfl
  | (j, s) :: r, ss => by
    rw [List.cons_append, lkS_cons, lkS_append t r ss]
    simp only [lkG]
    by_cases e : t = j
    · rw [if_pos e, if_pos e]; rfl
    · rw [if_neg e, if_neg e]
theorem lkC_nu (k : Nat) : ∀ (nu : List Nat) (c : List (Nat × Option Arr)), lkC k (nu.map (fun k => (k, none)) ++ c) = if k ∈ nu then some none else lkC k c
  | [], c => by simp
  | j :: r, c => by
    rw [List.map_cons, List.cons_append, lkC_cons, lkC_nu k r c]
    by_cases e : k = j
    · simp [e]
    · simp [e]
theorem effS_ab (σ : St) (dst : Option Nat) (s : S) (al : Option (Nat × Arr)) (gh : List (Nat × S)) (nu : List Nat) (hn : ∀ k ∈ nu, lkC k σ.c = none) (ha : al = none ∨ nu = []) : (effS σ dst s al gh nu).ab = σ.ab.eff dst { s, al, gh, nu } := by
  refine Ab.ext' (funext fun t => ?_) (funext fun k => ?_) (funext fun k => ?_) (funext fun k => ?_)
  · rw [eff_sg]
    cases dst with
    | none => simp [effS, St.ab, lkS_append]
    | some d =>
      simp only [effS, St.ab, lkS_cons, lkS_append, Option.some.injEq]
      by_cases e : t = d
      · rw [if_pos e, if_pos e.symm]
      · rw [if_neg e, if_neg (Ne.symm e)]
  · rw [eff_c _ _ _ rfl rfl]
    rcases ha with ha | ha
    · subst ha
      simp only [effS, St.ab, lkC_nu]
      by_cases e : k ∈ nu
      · rw [if_pos e, hn k e]
      · rw [if_neg e]
    · subst ha
      rcases al with _ | ⟨j, A⟩
      · rfl
      · simp only [effS, St.ab, List.map_nil, List.nil_append, lkC_cons]
        by_cases e : k = j
        · simp [e]
        · simp [e]
  · rw [eff_sh']
    simp [effS, St.ab]
  · rw [eff_us]
    simp only [effS, St.ab, lkC_nu]
    by_cases e : k ∈ nu
    · simp [e]
    · rw [if_neg e]
      rcases al with _ | ⟨j, A⟩
      · simp [e]
      · simp only [lkC_cons]
        by_cases e' : k = j
        · simp [e']
        · simp [e', e]

theorem treeK_spec {σ : St} {k : Nat} {K : TypeId → Nat → List D → Prop} (h : treeK σ k K) : ∃ e sz xs, σ.ab.f k = some ⟨e, sz, xs⟩ ∧ K e sz xs := by
  unfold treeK at h
  split at h
  · rename_i e sz xs hs
    exact ⟨e, sz, xs, by unfold Ab.f; rw [show σ.ab.s (1000000 + k) = lkS (1000000 + k) σ.s from rfl, hs], h⟩
  · exact h.elim
theorem unus {σ : St} {d : Nat} (h : lkC d σ.c = none) : σ.ab.us d = false := by simp [St.ab, h]
theorem toEK_spec {σ : St} {s : S} {K : D → Prop} (h : toEK σ s K) : ∃ z, ToE σ.ab s z ∧ (∀ u, s = .d u → u.okE = true) ∧ K z := by
  unfold toEK at h
  split at h
  · split at h
    · rename_i hx
      exact ⟨_, .d _, fun u e => by cases e; exact hx, h⟩
    · exact h.elim
  · exact ⟨_, .nil, fun u e => (by cases e), h⟩
  · split at h
    · rename_i hl
      obtain ⟨h1, h2⟩ := h.out
      exact ⟨_, .av _ _ _ (live hl) h1, fun u e => (by cases e), h2⟩
    · exact h.elim
  · obtain ⟨e, sz, xs, hf, h⟩ := treeK_spec h
    obtain ⟨h1, h2⟩ := h.out
    exact ⟨_, .fv _ _ _ hf h1, fun u e => (by cases e), h2⟩
  · exact ⟨_, .dr _, fun u e => (by cases e), h⟩
  · exact h.elim
theorem contX_spec {σ : St} {s : S} {K : List D → Prop} (h : contX σ s K) : ∃ ys, ToCR σ.ab s ys ∧ (∀ xs, s = .d (.sl xs) → ∀ z ∈ fl xs, z.isRef = false) ∧ (∀ j m' A, s = .av j m' → σ.ab.c j = some A → ∀ z ∈ fl (A.xs.take m'), z.isRef = false) ∧ (∀ j l m', s ≠ .aw j l m') ∧ K ys := by
  unfold contX at h
  split at h
  · obtain ⟨h1, h2⟩ := h.out
    exact ⟨_, .pl (.d _), fun xs e => by cases e; exact h1, fun j m' A e => (by cases e), fun j l m' e => (by cases e), h2⟩
  · exact ⟨_, .pl .nil, fun xs e => (by cases e), fun j m' A e => (by cases e), fun j l m' e => (by cases e), h⟩
  · split at h
    · rename_i hl
      obtain ⟨h1, h2⟩ := (takeK_iff.1 h).out
      refine ⟨_, .pl (.av _ _ _ (live hl)), fun xs e => (by cases e), fun j m' A e hA => ?_, fun j l m' e => (by cases e), h2⟩
      cases e
      rw [live hl] at hA; cases hA
      exact h1
    · exact h.elim
  · obtain ⟨e, sz, xs, hf, h⟩ := treeK_spec h
    obtain ⟨h1, h⟩ := h.out
    obtain ⟨h2, h⟩ := h.out
    exact ⟨_, .fv _ _ _ hf h1 h2, fun xs e => (by cases e), fun j m' A e => (by cases e), fun j l m' e => (by cases e), h⟩
  · exact h.elim

theorem newT_out {o : Oper} {σ : St} {s : Nat → S} {e : TypeId} {sz : Nat} {xs : List D} {K : St → Prop} (hc : cls R o.op ≠ 0) (h : newT σ o.dst s e sz xs K) (he : ∀ d, o.dst = some d → σ.ab.us d = false → Seen P false o σ.ab { s := s d, gh := [(1000000 + d, .fa ⟨e, sz, xs⟩)], nu := [d] }) : Out P T R o σ K := by
  unfold newT at h
  split at h
  · rename_i d ss c sh hd
    split at h
    · rename_i hl
      refine ⟨_, effS ⟨ss, c, sh⟩ (some d) (s d) none [(1000000 + d, .fa ⟨e, sz, xs⟩)] [d], .inl (.inr ⟨hc, he d hd (unus hl)⟩), ?_, h⟩
      rw [effS_ab _ _ _ _ _ _ (by simpa using hl) (.inl rfl), hd]
    · exact h.elim
  · exact h.elim

theorem putX_out {o : Oper} {σ : St} {s : S} {K : St → Prop} (hc : cls R o.op ≠ 0) (h : putS σ o.dst s K) (he : Seen P false o σ.ab { s }) : Out P T R o σ K := by
  obtain ⟨σ', hab, hK⟩ := putS_ab' h
  exact ⟨_, σ', .inl (.inr ⟨hc, he⟩), hab, hK⟩
where
  putS_ab' {σ : St} {dst : Option Nat} {s : S} {K : St → Prop} (h : putS σ dst s K) : ∃ σ1, σ1.ab = σ.ab.put dst s ∧ K σ1 := by
    cases dst with
    | none => exact ⟨σ, rfl, h⟩
    | some d => exact ⟨⟨(d, s) :: σ.s, σ.c, σ.sh⟩, ab_cons σ d s [], h⟩

theorem refSK_cell {σ : St} {z : D} {K : S → Prop} (h : refSK σ z K) : z.isCell = true := by
  unfold refSK at h
  split at h <;> first | rfl | exact h.elim
theorem cls_load (t : TypeId) (x : Operand) : cls R (.load t x) ≠ 0 := by simp only [cls]; split <;> decide
theorem cls_load2 {t : TypeId} (x : Operand) (h : memB (500000 + t) R = true ∨ memB (700000 + t) R = true) : cls R (.load t x) = 2 := by
  simp only [cls]
  rw [memB_iff, memB_iff] at h
  rw [if_pos (by simpa [Bool.or_eq_true] using h)]

theorem outK_out {o : Oper} {t : TypeId} {x : Operand} {σ : St} {k e sz e' sz' : Nat} {zs : List D} {xs' : Nat → (List D → Prop) → Prop} {xs2 : Nat → List D} {K : St → Prop} (ho : o.op = .load t x) (h : outK R t σ o.dst k e sz e' sz' zs xs' K)
    (hxs : ∀ d K, xs' d K → K (xs2 d))
    (h1 : ∀ d, o.dst = some d → σ.ab.us d = false → NoRefL zs → Seen P true o σ.ab { s := .fv d zs.length, gh := [(1000000 + k, .fa ⟨e, sz, xs2 d⟩), (1000000 + d, .fa ⟨e', sz', zs⟩)], nu := [d] })
    (h2 : ∀ d, o.dst = some d → σ.ab.us d = false → plainL zs → Seen P true o σ.ab { s := .av d zs.length, al := some (d, ⟨e', sz', zs⟩), gh := [(1000000 + k, .fa ⟨e, sz, xs2 d⟩)] }) : Out P T R o σ K := by
  unfold outK at h
  split at h
  · rename_i d ss c sh hd
    split at h
    · rename_i hl
      split at h
      · rename_i hf
        obtain ⟨hn, h⟩ := h.out
        have h := hxs d _ h
        refine ⟨_, effS ⟨ss, c, sh⟩ (some d) (.fv d zs.length) none [(1000000 + k, .fa ⟨e, sz, xs2 d⟩), (1000000 + d, .fa ⟨e', sz', zs⟩)] [d], .inr (.inr ⟨by rw [ho]; exact cls_load2 x (.inl hf), h1 d hd (unus hl) hn⟩), ?_, h⟩
        rw [effS_ab _ _ _ _ _ _ (by simpa using hl) (.inl rfl), hd]
      · split at h
        · rename_i hf
          obtain ⟨hn, h⟩ := h.out
          have h := hxs d _ h
          refine ⟨_, effS ⟨ss, c, sh⟩ (some d) (.av d zs.length) (some (d, ⟨e', sz', zs⟩)) [(1000000 + k, .fa ⟨e, sz, xs2 d⟩)] [], .inr (.inr ⟨by rw [ho]; exact cls_load2 x (.inr hf), h2 d hd (unus hl) hn⟩), ?_, h⟩
          rw [effS_ab _ _ _ _ _ _ (by simp) (.inr rfl), hd]
        · exact h.elim
    · exact h.elim
  · exact h.elim

theorem ownAt_spec : ∀ {fs : List D} {f : Nat}, ownAt fs = some f → f < fs.length
  | [], f, h => by cases h
  | x :: r, f, h => by
    have key : ∀ {f}, (match ownAt r with | some i => some (i + 1) | none => none) = some f → f < (x :: r).length := fun {f} h => by
      cases hr : ownAt r with
      | none => rw [hr] at h; cases h
      | some i => rw [hr] at h; cases h; simpa using ownAt_spec hr
    cases x <;> first | (exact key h) | (cases h; simp)

theorem outSK_out {o : Oper} {t : TypeId} {x : Operand} {ty : Ty} {σ : St} {k e sz i : Nat} {xs fs : List D} {K : St → Prop} (hTy : TyOK P t ty) (ho : o.op = .load t x) (hx : σ.ab.val x = .fe k i) (hB : σ.ab.f k = some ⟨e, sz, xs⟩) (hz : xs[i]? = some (.agg fs)) (hfit : LoadFit ty (.agg fs))
    (h : outSK R t σ o.dst k e sz i xs fs K) : Out P T R o σ K := by
  unfold outSK at h
  split at h
  · split at h
    · rename_i hall
      exact putX_out (by rw [ho]; exact cls_load t x) h (.loadS hTy ho hx hB hz (List.all_eq_true.1 hall) hfit)
    · exact h.elim
  · rename_i f hf
    obtain ⟨z', hz', h'⟩ := getK_iff.1 h
    clear h
    cases z' with
    | own e' sz' zs =>
      dsimp only at h'
      split at h'
      · rename_i d ss c sh hd
        split at h'
        · rename_i hl hfl
          obtain ⟨hn, h'⟩ := h'.out
          obtain ⟨_, h'⟩ := setK_iff.1 h'
          split at h'
          · rename_i hall
            obtain ⟨_, h'⟩ := setK_iff.1 h'
            refine ⟨_, effS ⟨ss, c, sh⟩ (some d) (.dr (fs.set f (.ref d zs.length))) none [(1000000 + k, .fa ⟨e, sz, xs.set i (.agg (fs.set f (.ref d zs.length)))⟩), (1000000 + d, .fa ⟨e', sz', zs⟩)] [d], .inr (.inr ⟨by rw [ho]; exact cls_load2 x (.inl hfl), .outSF (B := ⟨e, sz, xs⟩) hTy ho hd (unus hl) hx hB hz hz' (List.all_eq_true.1 hall) hfit hn⟩), ?_, h'⟩
            rw [effS_ab _ _ _ _ _ _ (by simpa using hl) (.inl rfl), hd]
          · exact h'.elim
        · exact h'.elim
      · exact h'.elim
    | _ => exact h'.elim

theorem loadX_out (hT : TOK P T) {o : Oper} {t : TypeId} {x : Operand} {ty : Ty} {σ : St} {K : St → Prop} (ho : o.op = .load t x) (hty : tyOf t T = some ty) (h : loadX R t ty σ o.dst (valS σ x) K) : Out P T R o σ K := by
  have hv := valS_ab σ
  have hcl : cls R o.op ≠ 0 := by rw [ho]; exact cls_load t x
  have hTy := hT _ (tyOf_mem hty)
  generalize hx : valS σ x = s at h
  rw [hv] at hx
  unfold loadX at h
  split at h
  · rename_i k i f
    obtain ⟨e, sz, xs, hB, h⟩ := treeK_spec h
    obtain ⟨y, hy, h⟩ := getK_iff.1 h
    split at h
    · rename_i fs
      obtain ⟨z, hz, h⟩ := getK_iff.1 h
      obtain ⟨hfit, h⟩ := fitK_iff.1 h
      cases z with
      | own e' sz' zs =>
        refine outK_out (xs2 := fun d => xs.set i (.agg (fs.set f (.ref d zs.length)))) ho h (fun d K h => ?_) (fun d hd hu hn => .outFF hTy ho hd hu hx hB hy hz hfit hn) (fun d hd hu hn => .outCF hTy ho hd hu hx hB hy hz hfit hn)
        obtain ⟨_, h⟩ := setK_iff.1 h
        exact (setK_iff.1 h).2
      | _ =>
        replace h : refSK σ _ (fun s => putS σ o.dst s K) := h
        obtain ⟨s, hs, h'⟩ := refSK_spec h
        exact putX_out hcl h' (.loadF hTy ho hx hB hy hz (refSK_cell h) hs hfit)
    · exact h.elim
  · rename_i k i
    obtain ⟨e, sz, xs, hB, h⟩ := treeK_spec h
    obtain ⟨z, hz, h⟩ := getK_iff.1 h
    obtain ⟨hfit, h⟩ := fitK_iff.1 h
    cases z with
    | own e' sz' zs =>
      refine outK_out (xs2 := fun d => xs.set i (.ref d zs.length)) ho h (fun d K h => (setK_iff.1 h).2) (fun d hd hu hn => .outFE hTy ho hd hu hx hB hz hfit hn) (fun d hd hu hn => .outCE hTy ho hd hu hx hB hz hfit hn)
    | agg fs =>
      replace h : outSK R t σ o.dst k e sz i xs fs K := h
      exact outSK_out hTy ho hx hB hz hfit h
    | _ =>
      replace h : refSK σ _ (fun s => putS σ o.dst s K) := h
      obtain ⟨s, hs, h'⟩ := refSK_spec h
      exact putX_out hcl h' (.loadE hTy ho hx hB hz (refSK_cell h) hs hfit)
  · exact h.elim

theorem un_out {o : Oper} {σ : St} {k e sz : Nat} {ys : List D} {K : St → Prop} (hc : cls R o.op = 2) (h : match o.dst, σ with
        | none, ⟨ss, c, sh⟩ => K ⟨(1000000 + k, .fa ⟨e, sz, ys⟩) :: ss, c, sh⟩
        | some d, ⟨ss, c, sh⟩ => K ⟨(d, .un) :: (1000000 + k, .fa ⟨e, sz, ys⟩) :: ss, c, sh⟩) (he : Seen P true o σ.ab { s := .un, gh := [(1000000 + k, .fa ⟨e, sz, ys⟩)] }) : Out P T R o σ K := by
  refine ⟨_, effS σ o.dst .un none [(1000000 + k, .fa ⟨e, sz, ys⟩)] [], .inr (.inr ⟨hc, he⟩), effS_ab _ _ _ _ _ _ (by simp) (.inl rfl), ?_⟩
  obtain ⟨ss, c, sh⟩ := σ
  cases hd : o.dst with
  | none => rw [hd] at h; exact h
  | some d => rw [hd] at h; exact h

theorem storeX_out (hT : TOK P T) {o : Oper} {t : TypeId} {x y : Operand} {ty : Ty} {σ : St} {K : St → Prop} (ho : o.op = .store t x y) (hty : tyOf t T = some ty) (h : storeX ty σ o.dst (valS σ x) (valS σ y) K) : Out P T R o σ K := by
  have hv := valS_ab σ
  have hcl : cls R o.op = 2 := by rw [ho]; rfl
  have hTy := hT _ (tyOf_mem hty)
  generalize hx : valS σ x = s at h
  rw [hv] at hx h
  unfold storeX at h
  split at h
  · rename_i k i f
    obtain ⟨z, hz, hze, h⟩ := toEK_spec h
    obtain ⟨e, sz, xs, hB, h⟩ := treeK_spec h
    obtain ⟨hw, h⟩ := beqK_iff.1 h
    obtain ⟨y', hy, h⟩ := getK_iff.1 h
    split at h
    · rename_i fs
      split at h
      · rename_i hzc
        obtain ⟨hf, h⟩ := setK_iff.1 h
        obtain ⟨_, h⟩ := setK_iff.1 h
        exact un_out hcl h (.storeF hTy ho hx hB hy hf hz hze hzc hw)
      · exact h.elim
    · exact h.elim
  · rename_i k i
    obtain ⟨z, hz, hze, h⟩ := toEK_spec h
    obtain ⟨e, sz, xs, hB, h⟩ := treeK_spec h
    obtain ⟨hw, h⟩ := beqK_iff.1 h
    obtain ⟨hw', h⟩ := beqK_iff.1 h
    obtain ⟨hi, h⟩ := setK_iff.1 h
    exact un_out hcl h (.storeE hTy ho hx hB hi hz hze hw' hw)
  · exact h.elim

theorem appX_out (hT : TOK P T) {o : Oper} {t : TypeId} {x y : Operand} {σ : St} {k m : Nat} {K : St → Prop} (ho : o.op = .call { callee := .builtin .append, args := #[x, y], argTypes := #[t, t] }) (hx : σ.ab.val x = .fv k m) (h : appX T σ o.dst t k m (valS σ y) K) : Out P T R o σ K := by
  have hv := valS_ab σ
  unfold appX at h
  split at h
  case h_2 => exact h.elim
  rename_i e hty
  split at h
  case h_2 => exact h.elim
  rename_i ety hety
  obtain ⟨e', sz, xs, hB, h1⟩ := treeK_spec h
  clear h
  obtain ⟨he, h1⟩ := beqK_iff.1 h1
  obtain ⟨hsz, h1⟩ := beqK_iff.1 h1
  obtain ⟨hm, h1⟩ := h1.out
  obtain ⟨ys, hy, hyd, hya, hyw, h2⟩ := contX_spec h1
  clear h1
  rw [hv] at hy hyd hya hyw
  obtain ⟨n, xs', e1, e2, hl, hw, h⟩ := h2.out
  clear h2
  rw [hm, List.take_length] at e2
  rw [e2, e1] at h
  obtain ⟨ss, c, sh⟩ := σ
  cases hd : o.dst with
  | none => rw [hd] at h; exact h.elim
  | some d =>
    rw [hd] at h
    dsimp only at h
    split at h
    · rename_i hlk
      refine ⟨{ s := .fv d (m + ys.length), gh := [(1000000 + k, .junk), (1000000 + d, .fa ⟨e', sz, xs ++ ys⟩)], nu := [d] }, effS ⟨ss, c, sh⟩ (some d) (.fv d (m + ys.length)) none [(1000000 + k, .junk), (1000000 + d, .fa ⟨e', sz, xs ++ ys⟩)] [d], .inr (.inr ⟨by rw [ho]; rfl, ?_⟩), ?_, h⟩
      rotate_right
      · rw [effS_ab _ _ _ _ _ _ (by simpa using hlk) (.inl rfl), hd]
      · exact .append (B := ⟨e', sz, xs⟩) hT ho hd (unus hlk) (tyOf_mem hty) (tyOf_mem hety) hx hB hm he hsz hy hyd hya hyw hw (by omega)
    · exact h.elim

theorem erCK_spec {σ : St} {z : D} {K : D → Prop} (h : erCK σ z K) : ∃ y, ErC σ.ab z y ∧ K y := by
  unfold erCK at h
  split at h
  · exact ⟨_, .sc _, h⟩
  · exact ⟨_, .sl _, h⟩
  · split at h
    · rename_i hl
      obtain ⟨h1, h2⟩ := h.out
      exact ⟨_, .av _ _ _ (live hl) h1, h2⟩
    · obtain ⟨e, sz, xs, hf, h⟩ := treeK_spec h
      obtain ⟨h1, h⟩ := h.out
      obtain ⟨ys, h2, rfl, h⟩ := h.out
      exact ⟨_, .fv _ _ _ hf h1 h2, h⟩
  · exact h.elim
theorem erFsK_spec {σ : St} : ∀ {fs : List D} {K : List D → Prop}, erFsK σ fs K → ∃ ys, ys.length = fs.length ∧ (∀ (j : Nat) (d y : D), fs[j]? = some d → ys[j]? = some y → ErC σ.ab d y) ∧ K ys
  | [], K, h => ⟨[], rfl, fun j d y h => by simp at h, h⟩
  | z :: r, K, h => by
    obtain ⟨y, h1, h⟩ := erCK_spec (K := _) h
    obtain ⟨ys, h2, h3, h⟩ := erFsK_spec h
    refine ⟨y :: ys, by simp [h2], fun j d y' hd hy => ?_, h⟩
    cases j with
    | zero => simp at hd hy; subst hd; subst hy; exact h1
    | succ j => exact h3 j d y' (by simpa using hd) (by simpa using hy)
theorem erK_spec {σ : St} {s : S} {K : D → Prop} (h : erK σ s K) : ∃ y, ErS σ.ab s y ∧ K y := by
  unfold erK at h
  split at h
  · exact ⟨_, .d _, h⟩
  · exact ⟨_, .nil, h⟩
  · split at h
    · rename_i hl
      exact ⟨_, .av _ _ _ (live hl), takeK_iff.1 h⟩
    · exact h.elim
  · obtain ⟨e, sz, xs, hf, h⟩ := treeK_spec h
    obtain ⟨h1, h⟩ := h.out
    obtain ⟨ys, h2, rfl, h⟩ := h.out
    exact ⟨_, .fv _ _ _ hf h1 h2, h⟩
  · obtain ⟨ys, h1, h2, h⟩ := erFsK_spec h
    exact ⟨_, .dr _ _ h1 h2, h⟩
  · exact h.elim
theorem erArgsK_spec {σ : St} : ∀ {l : List Operand} {K : List A1 → Prop}, erArgsK σ l K → ∃ as, ErAs σ.ab (l.map σ.ab.val) as ∧ K as
  | [], K, h => ⟨[], .nil, h⟩
  | x :: r, K, h => by
    have key : ∃ a, ErA σ.ab (σ.ab.val x) a ∧ erArgsK σ r fun as => K (a :: as) := by
      have h : erAK σ (valS σ x) fun a => erArgsK σ r fun as => K (a :: as) := h
      rw [valS_ab] at h
      unfold erAK at h
      split at h
      · rename_i f hf
        exact ⟨_, by rw [hf]; exact .fn f, h⟩
      · obtain ⟨y, h1, h⟩ := erK_spec h
        exact ⟨_, .d h1, h⟩
    obtain ⟨a, h1, h⟩ := key
    obtain ⟨as, h2, h⟩ := erArgsK_spec h
    exact ⟨_, .cons h1 h2, h⟩
theorem freshN_spec {c : List (Nat × Option Arr)} {b : Nat} : ∀ {i : Nat} {fs : List D}, freshN c b i fs = true → ∀ p, p < fs.length → lkC (b + (i + p)) c = none
  | i, [], _, p, hp => by simp at hp
  | i, x :: r, h, p, hp => by
    unfold freshN at h
    split at h
    · rename_i hl
      cases p with
      | zero => exact hl
      | succ p =>
        have := freshN_spec h p (by simpa using hp)
        rw [show i + (p + 1) = i + 1 + p by omega]; exact this
    · cases h
theorem effS_none (σ : St) (d : Nat) (s : S) (gh : List (Nat × S)) (nu : List Nat) : effS σ (some d) s none gh nu = ⟨(d, s) :: (gh ++ σ.s), nu.map (fun k => (k, none)) ++ σ.c, σ.sh⟩ := rfl
theorem outR_out {o : Oper} {σ : St} {f : FuncId} {fx : Operand} {args : Array Operand} {tys : Array TypeId} {as : List A1} {r : Res} {e : Ef} {σ' : St} {K : St → Prop} (ho : o.op = .call { callee := .value fx, args, argTypes := tys }) (hf : σ.ab.val fx = .fn f) (hx : ErAs σ.ab (args.toList.map σ.ab.val) as) (hc : Contract P f as r)
    (hr : OutR σ.ab o.dst r e) (hab : σ'.ab = σ.ab.eff o.dst e) (hK : K σ') : Out P T R o σ K :=
  ⟨e, σ', .inl (.inr ⟨by rw [ho]; exact cls_call R _ _ _, .callR ho hf hx hc hr⟩), hab, hK⟩
theorem newK_ab0 {σ : St} {dst : Option Nat} {s : Nat → S} {A : Arr} {K : St → Prop} (h : newK σ dst [] s A K) : ∃ d σ', dst = some d ∧ σ.ab.us d = false ∧ σ'.ab = σ.ab.eff dst { s := s d, al := some (d, A) } ∧ K σ' := by
  obtain ⟨d, σ', h1, h2, h3, h4⟩ := newK_ab h
  refine ⟨d, σ', h1, h2, ?_, h4⟩
  rw [h3, h1]; rfl
theorem putS_ab0 {σ : St} {dst : Option Nat} {s : S} {K : St → Prop} (h : putS σ dst s K) : ∃ σ1, σ1.ab = σ.ab.eff dst { s } ∧ K σ1 := by
  cases dst with
  | none => exact ⟨σ, rfl, h⟩
  | some d => exact ⟨⟨(d, s) :: σ.s, σ.c, σ.sh⟩, ab_cons σ d s [], h⟩
theorem newT_ab {σ : St} {dst : Option Nat} {s : Nat → S} {e : TypeId} {sz : Nat} {xs : List D} {K : St → Prop} (h : newT σ dst s e sz xs K) : ∃ d σ', dst = some d ∧ σ.ab.us d = false ∧ σ'.ab = σ.ab.eff dst { s := s d, gh := [(1000000 + d, .fa ⟨e, sz, xs⟩)], nu := [d] } ∧ K σ' := by
  unfold newT at h
  split at h
  · rename_i d ss c sh
    split at h
    · rename_i hl
      refine ⟨d, effS ⟨ss, c, sh⟩ (some d) (s d) none [(1000000 + d, .fa ⟨e, sz, xs⟩)] [d], rfl, unus hl, ?_, h⟩
      rw [effS_ab _ _ _ _ _ _ (by simpa using hl) (.inl rfl)]
    · exact h.elim
  · exact h.elim
theorem callX_out {o : Oper} {σ : St} {f : FuncId} {args : Array Operand} {tys : Array TypeId} {K : St → Prop} (ho : o.op = .call { callee := .value (.func f), args, argTypes := tys }) (h : callX P σ o.dst f args.toList K) : Out P T R o σ K := by
  obtain ⟨as, hx, h⟩ := erArgsK_spec (K := _) h
  obtain ⟨r, hc, h⟩ := h.out
  have fin : ∀ {e : Ef} {σ' : St}, OutR σ.ab o.dst r e → σ'.ab = σ.ab.eff o.dst e → K σ' → Out P T R o σ K := fun h1 h2 h3 => outR_out ho rfl hx hc h1 h2 h3
  clear hc
  unfold resX at h
  split at h
  · obtain ⟨σ', h1, h2⟩ := putS_ab0 h
    exact fin (.flat (.d _)) h1 h2
  · split at h
    · rename_i hr
      obtain ⟨vs, rfl⟩ := allSc_spec hr
      rw [mapD_eq] at h
      obtain ⟨σ', h1, h2⟩ := putS_ab0 h
      refine fin (.flat (.tup _ vs)) ?_ h2
      rw [h1]; simp [List.map_map, Function.comp_def]
    · exact h.elim
  · rename_i e sz xs
    obtain ⟨d, σ', h1, h2, h3, h4⟩ := newK_ab0 h
    exact fin (.fr (.one ⟨e, sz, xs⟩ d h1 h2)) h3 h4
  · rename_i e sz xs rest
    split at h
    · rename_i hr
      obtain ⟨vs, rfl⟩ := allSc_spec hr
      rw [mapD_eq] at h
      obtain ⟨d, σ', h1, h2, h3, h4⟩ := newK_ab0 h
      refine fin (.fr (.tup ⟨e, sz, xs⟩ vs d h1 h2)) ?_ h4
      rw [h3]; simp [List.map_map, Function.comp_def]
    · exact h.elim
  · rename_i e sz xs
    obtain ⟨hn, h⟩ := h.out
    obtain ⟨d, σ', h1, h2, h3, h4⟩ := newT_ab h
    exact fin (.tr (.sl e sz xs d h1 h2 hn.noRef)) h3 h4
  · rename_i fs
    obtain ⟨hn, h⟩ := h.out
    unfold newFs at h
    obtain ⟨ss, c, sh⟩ := σ
    cases hd : o.dst with
    | none => rw [hd] at h; exact h.elim
    | some d =>
      rw [hd] at h
      dsimp only at h
      split at h
      · rename_i hfr hok hle
        have hfr := freshN_spec hfr
        have hle := Nat.le_of_ble_eq_true hle
        refine fin (e := { s := .dr (trFs (200000 + 100 * d) 0 fs), gh := trGh (200000 + 100 * d) 0 fs, nu := trNu (200000 + 100 * d) 0 fs }) (σ' := effS ⟨ss, c, sh⟩ (some d) (.dr (trFs (200000 + 100 * d) 0 fs)) none (trGh (200000 + 100 * d) 0 fs) (trNu (200000 + 100 * d) 0 fs)) (.tr (.st fs d hd (fun p hp => unus (by simpa using hfr p hp)) hle (List.all_eq_true.1 hok) fun x hx => (hn x hx).noRef)) ?_ h
        rw [effS_ab _ _ _ _ _ _ (fun k hk => ?_) (.inl rfl), hd]
        have h1 := trNu_ge hk
        have h0 : k - (200000 + 100 * d) < fs.length := by omega
        have h2 := hfr (k - (200000 + 100 * d)) h0
        have h3 : 200000 + 100 * d + (0 + (k - (200000 + 100 * d))) = k := by
          obtain ⟨ha, hb⟩ := h1
          rw [Nat.zero_add]
          exact Nat.add_sub_cancel' ha
        rw [h3] at h2
        exact h2
      · exact h.elim
  · rename_i e sz xs rest
    split at h
    · rename_i hr
      obtain ⟨vs, rfl⟩ := allSc_spec hr
      obtain ⟨hn, h⟩ := h.out
      rw [mapD_eq] at h
      obtain ⟨d, σ', h1, h2, h3, h4⟩ := newT_ab h
      refine fin (.tr (.tup e sz xs vs d h1 h2 hn.noRef)) ?_ h4
      rw [h3]; simp [List.map_map, Function.comp_def]
    · exact h.elim
  · exact h.elim

/-- What has been gathered of the arguments of a call to which trees are lent. -/
structure Lend (σ : St) (ks : List Nat) (Bs : List Arr) : Prop where
  n : ks.Nodup
  l : Bs.length = ks.length
  b : ∀ (i k : Nat) (B : Arr), ks[i]? = some k → Bs[i]? = some B → σ.ab.f k = some B
  nr : ∀ B ∈ Bs, NoRefL B.xs
/-- More has been gathered. -/
structure Ext (ks ks' : List Nat) (Bs Bs' : List Arr) : Prop where
  k : ∃ r, ks' = ks ++ r
  b : ∃ r, Bs' = Bs ++ r
theorem Ext.refl (ks : List Nat) (Bs : List Arr) : Ext ks ks Bs Bs := ⟨⟨[], by simp⟩, ⟨[], by simp⟩⟩
theorem Ext.trans {a b c : List Nat} {x y z : List Arr} (h : Ext a b x y) (k : Ext b c y z) : Ext a c x z := by
  obtain ⟨⟨r, rfl⟩, ⟨s, rfl⟩⟩ := h
  obtain ⟨⟨r', rfl⟩, ⟨s', rfl⟩⟩ := k
  exact ⟨⟨r ++ r', by simp⟩, ⟨s ++ s', by simp⟩⟩
theorem ext_get {α : Type} {l l' : List α} (h : ∃ r, l' = l ++ r) {i : Nat} {x : α} (hx : l[i]? = some x) : l'[i]? = some x := by
  obtain ⟨r, rfl⟩ := h
  rw [List.getElem?_append_left (List.getElem?_eq_some_iff.1 hx).1]; exact hx
theorem ToTC.ext {a b : List Nat} {x y : List Arr} (h : Ext a b x y) {d g : D} (t : ToTC a x d g) : ToTC b y d g := by
  cases t with
  | sc v => exact .sc v
  | sl xs => exact .sl xs
  | ref k m i B hi hB => exact .ref k m i B (ext_get h.k hi) (ext_get h.b hB)
theorem ToT.ext {a b : List Nat} {x y : List Arr} (h : Ext a b x y) {s t : S} (u : ToT a x s t) : ToT b y s t := by
  cases u with
  | d x => exact .d x
  | fn f => exact .fn f
  | fv k m i B hi hB => exact .fv k m i B (ext_get h.k hi) (ext_get h.b hB)
  | dr fs gs hl hh => exact .dr fs gs hl fun j d g h1 h2 => (hh j d g h1 h2).ext h
theorem lendK_spec {σ : St} {k : Nat} {ks : List Nat} {Bs : List Arr} {K : Nat → List Nat → List Arr → Prop} (hL : Lend σ ks Bs) (h : lendK σ k ks Bs K) : ∃ ks' Bs' B, Lend σ ks' Bs' ∧ Ext ks ks' Bs Bs' ∧ ks'[ks.length]? = some k ∧ Bs'[ks.length]? = some B ∧ ks' = ks ++ [k] ∧ K (100000 + ks.length) ks' Bs' := by
  unfold lendK at h
  split at h
  · exact h.elim
  · rename_i hk
    obtain ⟨e, sz, xs, hB, h⟩ := treeK_spec h
    obtain ⟨hn, h⟩ := h.out
    rw [memB_iff] at hk
    have hk' : k ∉ ks := fun hm => by
      have : ks.contains k = true := by simpa using hm
      rw [hk] at this; cases this
    refine ⟨_, _, ⟨e, sz, xs⟩, ⟨?_, by simp [hL.l], fun i j B h1 h2 => ?_, fun B hBm => ?_⟩, ⟨⟨[k], rfl⟩, ⟨[⟨e, sz, xs⟩], rfl⟩⟩, by simp, by rw [← hL.l]; simp, rfl, h⟩
    · rw [List.nodup_append]
      exact ⟨hL.n, by simp, fun a ha b hb => by rw [List.mem_singleton.1 hb]; intro e; exact hk' (e ▸ ha)⟩
    · by_cases hi : i < ks.length
      · rw [List.getElem?_append_left hi] at h1
        rw [List.getElem?_append_left (by rw [hL.l]; exact hi)] at h2
        exact hL.b i j B h1 h2
      · rw [List.getElem?_append_right (by omega)] at h1
        rw [List.getElem?_append_right (by rw [hL.l]; omega), hL.l] at h2
        cases hz : i - ks.length with
        | zero => rw [hz] at h1 h2; simp at h1 h2; subst h1; subst h2; exact hB
        | succ m => rw [hz] at h1; simp at h1
    · rcases List.mem_append.1 hBm with h1 | h1
      · exact hL.nr B h1
      · rw [List.mem_singleton.1 h1]; exact hn
theorem tfsK_spec {σ : St} : ∀ {fs : List D} {ks : List Nat} {Bs : List Arr} {K : List D → List Nat → List Arr → Prop}, Lend σ ks Bs → tfsK σ fs ks Bs K → ∃ gs ks' Bs', Lend σ ks' Bs' ∧ Ext ks ks' Bs Bs' ∧ gs.length = fs.length ∧ (∀ (j : Nat) (d g : D), fs[j]? = some d → gs[j]? = some g → ToTC ks' Bs' d g) ∧ (∀ k ∈ ks', k ∈ ks ∨ ∃ d ∈ fs, refD d k) ∧ K gs ks' Bs'
  | [], ks, Bs, K, hL, h => ⟨[], ks, Bs, hL, .refl _ _, rfl, fun j d g h => by simp at h, fun k h => .inl h, h⟩
  | .sc v :: r, ks, Bs, K, hL, h => by
    obtain ⟨gs, ks', Bs', h1, h2, h3, h4, h5, h6⟩ := tfsK_spec hL (show tfsK σ r ks Bs _ from h)
    refine ⟨.sc v :: gs, ks', Bs', h1, h2, by simp [h3], fun j d g hd hg => ?_, fun k hk => (h5 k hk).imp id fun ⟨d, hd, hr⟩ => ⟨d, List.mem_cons_of_mem _ hd, hr⟩, h6⟩
    cases j with
    | zero => simp at hd hg; subst hd; subst hg; exact .sc v
    | succ j => exact h4 j d g (by simpa using hd) (by simpa using hg)
  | .sl xs :: r, ks, Bs, K, hL, h => by
    obtain ⟨gs, ks', Bs', h1, h2, h3, h4, h5, h6⟩ := tfsK_spec hL (show tfsK σ r ks Bs _ from h)
    refine ⟨.sl xs :: gs, ks', Bs', h1, h2, by simp [h3], fun j d g hd hg => ?_, fun k hk => (h5 k hk).imp id fun ⟨d, hd, hr⟩ => ⟨d, List.mem_cons_of_mem _ hd, hr⟩, h6⟩
    cases j with
    | zero => simp at hd hg; subst hd; subst hg; exact .sl xs
    | succ j => exact h4 j d g (by simpa using hd) (by simpa using hg)
  | .ref k m :: r, ks, Bs, K, hL, h => by
    obtain ⟨ks1, Bs1, B, a1, a2, a3, a4, a5, a6⟩ := lendK_spec hL (show lendK σ k ks Bs _ from h)
    obtain ⟨gs, ks', Bs', h1, h2, h3, h4, h5, h6⟩ := tfsK_spec a1 a6
    refine ⟨.ref (100000 + ks.length) m :: gs, ks', Bs', h1, a2.trans h2, by simp [h3], fun j d g hd hg => ?_, fun k' hk => ?_, h6⟩
    · cases j with
      | zero => simp at hd hg; subst hd; subst hg; exact .ref k m _ B (ext_get h2.k a3) (ext_get h2.b a4)
      | succ j => exact h4 j d g (by simpa using hd) (by simpa using hg)
    · rcases h5 k' hk with h7 | ⟨d, hd, hr⟩
      · rw [a5] at h7
        rcases List.mem_append.1 h7 with h8 | h8
        · exact .inl h8
        · exact .inr ⟨_, List.mem_cons_self, List.mem_singleton.1 h8⟩
      · exact .inr ⟨d, List.mem_cons_of_mem _ hd, hr⟩
theorem targK_spec {σ : St} {s : S} {ks : List Nat} {Bs : List Arr} {K : S → List Nat → List Arr → Prop} (hL : Lend σ ks Bs) (h : targK σ s ks Bs K) : ∃ t ks' Bs', Lend σ ks' Bs' ∧ Ext ks ks' Bs Bs' ∧ ToT ks' Bs' s t ∧ (∀ k ∈ ks', k ∈ ks ∨ refS s k) ∧ K t ks' Bs' := by
  unfold targK at h
  split at h
  · exact ⟨_, ks, Bs, hL, .refl _ _, .d _, fun k h => .inl h, h⟩
  · exact ⟨_, ks, Bs, hL, .refl _ _, .fn _, fun k h => .inl h, h⟩
  · rename_i k m
    obtain ⟨ks1, Bs1, B, a1, a2, a3, a4, a5, a6⟩ := lendK_spec hL h
    refine ⟨_, ks1, Bs1, a1, a2, .fv k m _ B a3 a4, fun k' hk => ?_, a6⟩
    rw [a5] at hk
    rcases List.mem_append.1 hk with h8 | h8
    · exact .inl h8
    · exact .inr (List.mem_singleton.1 h8)
  · rename_i fs
    obtain ⟨gs, ks', Bs', h1, h2, h3, h4, h5, h6⟩ := tfsK_spec hL h
    exact ⟨_, ks', Bs', h1, h2, .dr fs gs h3 h4, h5, h6⟩
  · exact h.elim
theorem targsK_spec {σ : St} : ∀ {l : List Operand} {ks : List Nat} {Bs : List Arr} {K : List S → List Nat → List Arr → Prop}, Lend σ ks Bs → targsK σ l ks Bs K → ∃ ss ks' Bs', Lend σ ks' Bs' ∧ Ext ks ks' Bs Bs' ∧ ss.length = l.length ∧ (∀ (j : Nat) (x : Operand) (s : S), l[j]? = some x → ss[j]? = some s → ToT ks' Bs' (σ.ab.val x) s) ∧ (∀ k ∈ ks', k ∈ ks ∨ ∃ x ∈ l, refS (σ.ab.val x) k) ∧ K ss ks' Bs'
  | [], ks, Bs, K, hL, h => ⟨[], ks, Bs, hL, .refl _ _, rfl, fun j d g h => by simp at h, fun k h => .inl h, h⟩
  | x :: r, ks, Bs, K, hL, h => by
    obtain ⟨t, ks1, Bs1, a1, a2, a3, a4, a5⟩ := targK_spec hL (show targK σ (valS σ x) ks Bs _ from h)
    rw [valS_ab] at a3 a4
    obtain ⟨ss, ks', Bs', h1, h2, h3, h4, h5, h6⟩ := targsK_spec a1 a5
    refine ⟨t :: ss, ks', Bs', h1, a2.trans h2, by simp [h3], fun j d g hd hg => ?_, fun k hk => ?_, h6⟩
    · cases j with
      | zero => simp at hd hg; subst hd; subst hg; exact a3.ext h2
      | succ j => exact h4 j d g (by simpa using hd) (by simpa using hg)
    · rcases h5 k hk with h7 | ⟨y, hy, hr⟩
      · rcases a4 k h7 with h8 | h8
        · exact .inl h8
        · exact .inr ⟨x, List.mem_cons_self, h8⟩
      · exact .inr ⟨y, List.mem_cons_of_mem _ hy, hr⟩
theorem tcallK_out {o : Oper} {σ : St} {f : FuncId} {args : Array Operand} {tys : Array TypeId} {K : St → Prop} (ho : o.op = .call { callee := .value (.func f), args, argTypes := tys }) (hR : memB (100000 + f) R = true) (h : tcallK P σ o.dst f args.toList K) : Out P T R o σ K := by
  have hL : Lend σ [] [] := ⟨List.nodup_nil, rfl, fun i k B h => by simp at h, fun B h => by simp at h⟩
  obtain ⟨as, ks, Bs, h1, _, h3, h4, h5, h6⟩ := targsK_spec (K := _) hL h
  clear h
  obtain ⟨r, Bs', hc, h⟩ := h6.out
  clear h6
  have hcl : cls R o.op = 2 := by
    rw [ho]; simp only [cls]
    rw [memB_iff] at hR
    rw [if_pos hR]
  refine ⟨{ s := .d (.sc r), gh := lentGh ks Bs' }, effS σ o.dst (.d (.sc r)) none (lentGh ks Bs') [], .inr (.inr ⟨hcl, .tcall ho rfl h3 h4 h1.n (fun k hk => ?_) h1.l h1.b h1.nr hc⟩), effS_ab _ _ _ _ _ _ (by simp) (.inl rfl), ?_⟩
  · rcases h5 k hk with h7 | ⟨x, hx, hr⟩
    · simp at h7
    · exact ⟨x, args_mem ho x hx, hr⟩
  · obtain ⟨ss, c, sh⟩ := σ
    cases hd : o.dst with
    | none => rw [hd] at h; exact h
    | some d => rw [hd] at h; exact h

theorem mcallX_out {o : Oper} {σ : St} {f : FuncId} {args : Array Operand} {tys : Array TypeId} {K : St → Prop} (ho : o.op = .call { callee := .value (.func f), args, argTypes := tys }) (hR : memB (100000 + f) R = true) (h : mcallK P σ o.dst f args.toList K) : Out P T R o σ K := by
  have hcls : cls R o.op = 2 := by rw [ho]; simp only [cls]; rw [memB_iff] at hR; rw [if_pos hR]
  unfold mcallK at h
  obtain ⟨as, ks, k, A, h1, hl, h3, hr⟩ := margs_spec h
  split at h1
  case h_2 => exact h1.elim
  rename_i hsh
  replace h1 := h1.out
  obtain ⟨⟨e, sz, xs⟩, rest, hc, h1⟩ := h1
  dsimp only at h1
  have hk : (lkC k σ.c).isSome = true := by rw [hl]; rfl
  cases rest with
  | nil =>
    obtain ⟨d, σ', hd, hu, hab, hK⟩ := newK_ab h1
    rw [ab_kill σ k hk] at hu hab
    refine ⟨_, σ', .inr (.inr ⟨hcls, .mcall ho h3 hr (live hl) (shares_sh_mem hsh) hd hu hc⟩), ?_, hK⟩
    rw [hab, shares_kill, hd]
    rfl
  | cons r0 rest =>
    dsimp only at h1
    rw [mapD_eq] at h1
    obtain ⟨d, σ', hd, hu, hab, hK⟩ := newK_ab h1
    rw [ab_kill σ k hk] at hu hab
    refine ⟨_, σ', .inr (.inr ⟨hcls, .mcall ho h3 hr (live hl) (shares_sh_mem hsh) hd hu hc⟩), ?_, hK⟩
    rw [hab, shares_kill, hd, List.map_map]
    rfl
theorem dOpX_out (hT : TOK P T) {o : Oper} {σ : St} {K : St → Prop} (h : dOpX P T R o σ K) : Out P T R o σ K := by
  have hv := valS_ab σ
  unfold dOpX at h
  split at h
  · rename_i t ho
    split at h
    · split at h
      · rename_i ty hty
        split at h
        · exact h.elim
        · rename_i m hm
          rw [zeroTy_eq] at h
          exact newT_out (by rw [ho]; simp [cls]) h fun d hd hu => .allocT hT ho hd hu (tyOf_mem hty) (by omega)
      · exact h.elim
    · exact dOp_out hT h
  · rename_i t x ho
    split at h
    · obtain ⟨z, hz, hze, h⟩ := toEK_spec h
      rw [hv] at hz hze
      split at h
      · exact h.elim
      · rename_i m hm
        exact newT_out (by rw [ho]; simp [cls]) h fun d hd hu => .boxT ho hd hu hz hze (by omega)
    · exact dOp_out hT h
  · rename_i t parts ho
    split at h
    · split at h
      · rename_i Fs hty
        obtain ⟨vs, hx, h⟩ := scPartsK_spec h
        rw [scLD_eq, zerosZ_eq] at h
        obtain ⟨h2, h⟩ := setsK_spec (by have := congrArg List.length hx; simpa using this.symm) h
        exact putX_out (by rw [ho]; simp [cls]) h (.buildZ hT ho (tyOf_mem hty) hx (fun p hp => by simpa using h2 p hp))
      · exact h.elim
    · exact dOp_out hT h
  · rename_i t len parts ho
    split at h
    · split at h
      · rename_i e hty
        split at h
        · rename_i ety hety
          split at h
          · rename_i m hm hle hp
            have hp' : parts = #[] := by cases parts; simp_all
            subst hp'
            exact newT_out (by rw [ho]; simp [cls]) h fun d hd hu => .lit0 hT ho hd hu (tyOf_mem hty) (tyOf_mem hety) (by omega)
          · rename_i m y hm hle hp
            have hp' : parts = #[(0, y)] := by cases parts; simp_all
            subst hp'
            obtain ⟨z, hz, hze, h⟩ := toEK_spec h
            rw [hv] at hz hze
            obtain ⟨hw, h⟩ := beqK_iff.1 h
            exact newT_out (by rw [ho]; simp [cls]) h fun d hd hu => .lit1 hT ho hd hu (tyOf_mem hty) (tyOf_mem hety) (by omega) (Nat.le_of_ble_eq_true hle) hz hze hw
          · exact h.elim
        · exact h.elim
      · exact h.elim
    · exact dOp_out hT h
  · rename_i t x y ho
    split at h
    · split at h
      · rename_i e hty
        split at h
        · rename_i ety hety
          obtain ⟨a, ha, h⟩ := intOf_spec h
          obtain ⟨b, hb, h⟩ := intOf_spec h
          rw [hv] at ha hb
          replace h := h.out
          obtain ⟨m, rfl, rfl, hm, h⟩ := h
          split at h
          · exact h.elim
          · rename_i m' hm'
            rw [zeroTy_eq] at h
            exact newT_out (by rw [ho]; simp [cls]) h fun d hd hu => .make hT ho hd hu (tyOf_mem hty) (tyOf_mem hety) ha hb hm (by omega)
        · exact h.elim
      · exact h.elim
    · exact dOp_out hT h
  · rename_i t x ho
    split at h
    · rename_i k i hx
      split at h
      · rename_i ty hty
        rw [← hx] at h
        exact loadX_out hT ho hty h
      · exact h.elim
    · rename_i k i f hx
      split at h
      · rename_i ty hty
        rw [← hx] at h
        exact loadX_out hT ho hty h
      · exact h.elim
    · exact dOp_out hT h
  · rename_i t x y ho
    split at h
    · rename_i k i hx
      split at h
      · rename_i ty hty
        rw [← hx] at h
        exact storeX_out hT ho hty h
      · exact h.elim
    · rename_i k i f hx
      split at h
      · rename_i ty hty
        rw [← hx] at h
        exact storeX_out hT ho hty h
      · exact h.elim
    · exact dOp_out hT h
  · rename_i t x ix ho
    split at h
    · rename_i k m hx
      rw [hv] at hx
      split at h
      · rename_i e hty
        split at h
        · rename_i ety hety
          obtain ⟨e', sz, xs, hB, h⟩ := treeK_spec h
          obtain ⟨j, hj, h⟩ := intOf_spec h
          rw [hv] at hj
          obtain ⟨hw, h⟩ := beqK_iff.1 h
          replace h := h.out
          obtain ⟨i, rfl, hi, h⟩ := h
          exact putX_out (by rw [ho]; simp [cls]) h (.index hT (tyOf_mem hty) (tyOf_mem hety) ho hx hB hw hj hi)
        · exact h.elim
      · exact h.elim
    · exact dOp_out hT h
  · rename_i args argTypes ho
    split at h
    · rename_i x y t t' ha hta
      split at h
      · rename_i k m hx
        rw [hv] at hx
        obtain ⟨e, h1⟩ := beqK_iff.1 h
        subst e
        have ea : args = #[x, y] := by cases args; simp_all
        have et : argTypes = #[t, t] := by cases argTypes; simp_all
        subst ea et
        exact appX_out hT ho hx h1
      · exact dOp_out hT h
    · exact h.elim
  · rename_i f args tys ho
    split at h
    · split at h
      · exact dOp_out hT h
      · split at h
        · rename_i hR
          exact tcallK_out ho hR h
        · exact callX_out ho h
    · split at h
      · split at h
        · rename_i hR
          exact mcallX_out ho hR h
        · exact h.elim
      · exact dOp_out hT h
  · exact dOp_out hT h
/-- One operation, where calls may have results that are known by a property. -/
def dOpXE (P : Program) (T : Tys) (R : List Nat) (o : Oper) (σ : St) (K : St → Prop) : Prop :=
  match o.op with
  | .call { callee := .value (.func f), args, .. } => (match memB (200000 + f) R with
    | true => dcallK P σ o.dst f args.toList K
    | false => (match memB (300000 + f) R with
      | true => mcallK P σ o.dst f args.toList K
      | false => dOpX P T R o σ K))
  | _ => dOpX P T R o σ K
theorem dOpXE_out (hT : TOK P T) {o : Oper} {σ : St} {K : St → Prop} (h : dOpXE P T R o σ K) : OutE P T R o σ K := by
  unfold dOpXE at h
  split at h
  · rename_i f args tys ho
    split at h
    · exact dcallK_out ho h
    · split at h
      · exact mcallK_out ho h
      · exact .inl (dOpX_out hT h)
  · exact .inl (dOpX_out hT h)
end
end Go.DL
