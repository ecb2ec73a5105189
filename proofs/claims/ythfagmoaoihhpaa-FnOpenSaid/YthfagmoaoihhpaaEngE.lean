/- Parts of an evaluator of Go code on plain data, proved sound for the model: lemmas alone, for every program; each states its own conditions. -/
import Derived.WalkKit
import Derived.Maps.AppendAt
import Derived.Still
import Derived.Laws.StructEq
namespace Go.DL
open Go.RowKit

abbrev Mem := Addr → Option Value

/-- Pure data: a scalar, a struct of one-cell fields, a slice. In the cells of a tree array also: a slice of array k; a slice that the cell owns; a slice of which nothing is known. -/
inductive D where
  | sc (v : Value)
  | agg (fs : List D)
  | sl (xs : List D)
  | ref (k m : Nat)
  | own (e : TypeId) (sz : Nat) (xs : List D)
  | jk
  deriving Inhabited

def D.width : D → Nat
  | .agg fs => fs.length
  | _ => 1

def D.isCell : D → Bool
  | .agg _ => false
  | _ => true

/-- The value reads as this data in the immutable memory M. -/
inductive Rep (M : Mem) : D → Value → Prop
  | sc (u : Value) (h : u.oneCell' = true) : Rep M (.sc u) u
  | agg (fs : List D) (cs : Array Value) (hl : cs.size = fs.length) (hc : ∀ f, f ∈ fs → f.isCell = true)
      (h : ∀ (j : Nat) (f : D), fs[j]? = some f → Rep M f (cs.getD j undef)) : Rep M (.agg fs) (.agg cs)
  | nil (a : Option Addr) (cap : Nat) : Rep M (.sl []) (.slice a 0 cap)
  | sl (xs : List D) (ad : Addr) (cap sz : Nat) (c : Nat → Value) (hcap : xs.length ≤ cap) (hsp : ad.spot = none)
      (hw : ∀ x, x ∈ xs → x.width = sz)
      (hm : ∀ j, j < xs.length * sz → M (ad.add j) = some (c j))
      (hs : ∀ (j : Nat) (x : D), xs[j]? = some x → x.isCell = true → Rep M x (c (j * sz)))
      (hc : ∀ (j : Nat) (fs : List D), xs[j]? = some (.agg fs) → ∀ f, f ∈ fs → f.isCell = true)
      (ha : ∀ (j : Nat) (fs : List D), xs[j]? = some (.agg fs) → ∀ (i : Nat) (f : D), fs[i]? = some f → Rep M f (c (j * sz + i))) :
      Rep M (.sl xs) (.slice (some ad) xs.length cap)

def Mem.le (M M' : Mem) : Prop := ∀ a v, M a = some v → M' a = some v
theorem Mem.le_refl (M : Mem) : Mem.le M M := fun _ _ h => h
theorem Mem.le_trans {M M' M'' : Mem} (h : Mem.le M M') (k : Mem.le M' M'') : Mem.le M M'' := fun _ _ e => k _ _ (h _ _ e)

theorem Rep.mono {M M' : Mem} (hM : Mem.le M M') {x : D} {v : Value} (h : Rep M x v) : Rep M' x v := by
  induction h with
  | sc u h => exact .sc u h
  | agg fs cs hl hc h ih => exact .agg fs cs hl hc ih
  | nil a cap => exact .nil a cap
  | sl xs ad cap sz c hcap hsp hw hm hs hc ha ih1 ih2 => exact .sl xs ad cap sz c hcap hsp hw (fun j hj => hM _ _ (hm j hj)) ih1 hc ih2

theorem Rep.oneCell {M : Mem} {x : D} {v : Value} (h : Rep M x v) (hx : x.isCell = true) : v.oneCell' = true := by
  cases h with
  | sc u h => exact h
  | agg => cases hx
  | nil => rfl
  | sl => rfl

def D.fl : D → List D
  | .agg fs => fs
  | x => [x]

/-- An own array: element type, cells an element, elements. -/
structure Arr where
  e : TypeId
  sz : Nat
  xs : List D
  deriving Inhabited

def ElemAt (M : Mem) (x : D) (cs : List Value) (o : Nat) : Prop :=
  (x.isCell = true → ∃ v, cs[o]? = some v ∧ Rep M x v) ∧
  (∀ fs, x = .agg fs → ∀ (i : Nat) (f : D), fs[i]? = some f → f.isCell = true ∧ ∃ v, cs[o + i]? = some v ∧ Rep M f v)

theorem ElemAt.mono {M M' : Mem} (hM : Mem.le M M') {x : D} {cs : List Value} {o : Nat} (h : ElemAt M x cs o) : ElemAt M' x cs o :=
  ⟨fun hx => let ⟨v, h1, h2⟩ := h.1 hx; ⟨v, h1, h2.mono hM⟩, fun fs hf i f hi => let ⟨h0, v, h1, h2⟩ := h.2 fs hf i f hi; ⟨h0, v, h1, h2.mono hM⟩⟩

def CellsOK (M : Mem) (sz : Nat) (xs : List D) (cs : List Value) : Prop :=
  cs.length = xs.length * sz ∧ ∀ (j : Nat) (x : D), xs[j]? = some x → x.width = sz ∧ ElemAt M x cs (j * sz)

theorem CellsOK.mono {M M' : Mem} (hM : Mem.le M M') {sz : Nat} {xs : List D} {cs : List Value} (h : CellsOK M sz xs cs) : CellsOK M' sz xs cs :=
  ⟨h.1, fun j x hx => ⟨(h.2 j x hx).1, (h.2 j x hx).2.mono hM⟩⟩

inductive T1 where
  | d (x : D)
  | av (k m : Nat)
  | fv (k m : Nat)

/-- What a slot holds. -/
inductive S where
  | junk
  | un
  | nil
  | d (x : D)
  | el (x : D)
  | av (k m : Nat)
  | ae (k i : Nat)
  | af (k i f : Nat)
  | fn (f : FuncId)
  | tup (xs : List T1)
  | fv (k m : Nat)
  | fe (k i : Nat)
  | ff (k i f : Nat)
  | dr (fs : List D)
  | fa (B : Arr)
  | aw (k l m : Nat)

/-- The abstract state. c: live own arrays; sh: shared (may be read as immutable data); us: the key is in use. -/
structure Ab where
  s : Nat → S
  c : Nat → Option Arr
  sh : Nat → Bool
  us : Nat → Bool

/-- The tree arrays: array k stands in the ghost slot 1000000 + k. -/
def Ab.f (τ : Ab) (k : Nat) : Option Arr :=
  match τ.s (1000000 + k) with
  | .fa B => some B
  | _ => none

def cutV (v : Value) (m : Nat) : Value :=
  match v with
  | .slice a _ c => .slice a m c
  | v => v

/-- The length of a slice, which it keeps when its array is given up. -/
def LenV (v : Value) (m : Nat) : Prop := ∃ a c, v = .slice a m c

def ElPtr (M : Mem) (x : D) (ad : Addr) : Prop :=
  ad.spot = none ∧ (x.isCell = true → ∃ v, M ad = some v ∧ Rep M x v) ∧
  (∀ fs, x = .agg fs → ∀ (i : Nat) (f : D), fs[i]? = some f → f.isCell = true ∧ ∃ v, M (ad.add i) = some v ∧ Rep M f v)

/-- A pointer into a block. -/
def PtrV (v : Value) : Prop := ∃ ad : Addr, v = .pointer (some ad) ∧ ad.spot = none

/-- A one-cell value that may be a slice of array k. -/
def RepR (M : Mem) (us : Nat → Bool) (γ : Nat → Value) : D → Value → Prop
  | .ref k m, v => us k = true ∧ LenV v m ∧ v = γ k
  | x, v => Rep M x v

def RepT (M : Mem) (τ : Ab) (γ : Nat → Value) : T1 → Value → Prop
  | .d x, v => Rep M x v
  | .fv k m, v => (τ.us k = true ∧ LenV v m) ∧ ∀ B, τ.f k = some B → m ≤ B.xs.length ∧ v = cutV (γ k) m
  | .av k m, v => (τ.us k = true ∧ LenV v m) ∧ ∀ A, τ.c k = some A → m ≤ A.xs.length ∧ v = cutV (γ k) m

def RepS (M : Mem) (τ : Ab) (γ : Nat → Value) : S → Value → Prop
  | .junk, _ => True
  | .un, v => v = undef
  | .nil, v => v = .slice none 0 0
  | .d x, v => Rep M x v
  | .el x, v => ∃ ad, v = .pointer (some ad) ∧ ElPtr M x ad
  | .av k m, v => (τ.us k = true ∧ LenV v m) ∧ ∀ A, τ.c k = some A → m ≤ A.xs.length ∧ v = cutV (γ k) m
  | .ae k i, v => τ.us k = true ∧ ∀ A, τ.c k = some A → i < A.xs.length ∧ ∃ g, (γ k).ownBlock = some g ∧ v = .pointer (some ⟨g, i * A.sz, none⟩)
  | .af k i f, v => τ.us k = true ∧ ∀ A, τ.c k = some A → i < A.xs.length ∧ ∃ g, (γ k).ownBlock = some g ∧ v = .pointer (some ⟨g, i * A.sz + f, none⟩)
  | .fn f, v => v = .func (.func f) #[] #[]
  | .tup xs, v => ∃ vs : Array Value, v = .tuple vs ∧ vs.size = xs.length ∧ ∀ (j : Nat) (s : T1), xs[j]? = some s → RepT M τ γ s (vs.getD j undef)
  | .fv k m, v => (τ.us k = true ∧ LenV v m) ∧ ∀ B, τ.f k = some B → m ≤ B.xs.length ∧ v = cutV (γ k) m
  | .fe k i, v => (τ.us k = true ∧ PtrV v) ∧ ∀ B, τ.f k = some B → i < B.xs.length ∧ ∃ g, (γ k).ownBlock = some g ∧ v = .pointer (some ⟨g, i * B.sz, none⟩)
  | .ff k i f, v => (τ.us k = true ∧ PtrV v) ∧ ∀ B, τ.f k = some B → i < B.xs.length ∧ ∃ g, (γ k).ownBlock = some g ∧ v = .pointer (some ⟨g, i * B.sz + f, none⟩)
  | .dr fs, v => ∃ cs : Array Value, v = .agg cs ∧ cs.size = fs.length ∧ ∀ (j : Nat) (d : D), fs[j]? = some d → d.isCell = true ∧ RepR M τ.us γ d (cs.getD j undef)
  | .aw k l m, v => (τ.us k = true ∧ LenV v (m - l)) ∧ ∀ A, τ.c k = some A → (l ≤ m ∧ m ≤ A.xs.length) ∧ (m = l ∨ ∃ g cap, (γ k).ownBlock = some g ∧ v = .slice (some ⟨g, l * A.sz, none⟩) (m - l) cap)
  | .fa B, _ => ∀ k m, D.ref k m ∈ B.xs.flatMap D.fl → τ.us k = true

/-- The state may go on from (τ, γ) to (τ', γ'): what a slot held it holds still. -/
def Goes (τ τ' : Ab) (γ γ' : Nat → Value) : Prop :=
  ∀ k, τ.us k = true → τ'.us k = true ∧ (∀ A', τ'.c k = some A' → ∃ A, τ.c k = some A ∧ A'.sz = A.sz ∧ A.xs.length ≤ A'.xs.length ∧ γ' k = γ k) ∧
    γ' k = γ k ∧ ∀ B', τ'.f k = some B' → ∃ B, τ.f k = some B ∧ B'.sz = B.sz ∧ B.xs.length ≤ B'.xs.length

/-- The tree arrays stay. -/
theorem Goes.of {τ τ' : Ab} {γ γ' : Nat → Value} (hf : ∀ k B, τ'.f k = some B → τ.f k = some B) (hu : ∀ k, τ.us k = true → γ' k = γ k)
    (h : ∀ k, τ.us k = true → τ'.us k = true ∧ ∀ A', τ'.c k = some A' → ∃ A, τ.c k = some A ∧ A'.sz = A.sz ∧ A.xs.length ≤ A'.xs.length) : Goes τ τ' γ γ' := fun k hk =>
  ⟨(h k hk).1, fun A' hA' => let ⟨A, a, b, c⟩ := (h k hk).2 A' hA'; ⟨A, a, b, c, hu k hk⟩, hu k hk, fun B hB => ⟨B, hf k B hB, rfl, Nat.le_refl _⟩⟩
theorem Goes.refl (τ : Ab) (γ : Nat → Value) : Goes τ τ γ γ := .of (fun _ _ h => h) (fun _ _ => rfl) fun _ h => ⟨h, fun A hA => ⟨A, hA, rfl, Nat.le_refl _⟩⟩

theorem RepR.goes {M M' : Mem} (hM : Mem.le M M') {us us' : Nat → Bool} {γ γ' : Nat → Value} (hg : ∀ k, us k = true → us' k = true ∧ γ' k = γ k) {x : D} {v : Value} (h : RepR M us γ x v) : RepR M' us' γ' x v := by
  cases x with
  | ref k m => obtain ⟨h1, h2, h3⟩ := h; exact ⟨(hg k h1).1, h2, by rw [(hg k h1).2]; exact h3⟩
  | sc u => exact Rep.mono hM h
  | agg fs => exact Rep.mono hM h
  | sl xs => exact Rep.mono hM h
  | own e sz xs => exact Rep.mono hM h
  | jk => exact Rep.mono hM h

theorem ElPtr.mono {M M' : Mem} (hM : Mem.le M M') {x : D} {ad : Addr} (h : ElPtr M x ad) : ElPtr M' x ad :=
  ⟨h.1, fun hx => let ⟨v, h1, h2⟩ := h.2.1 hx; ⟨v, hM _ _ h1, h2.mono hM⟩, fun fs hf i f hi => let ⟨h0, v, h1, h2⟩ := h.2.2 fs hf i f hi; ⟨h0, v, hM _ _ h1, h2.mono hM⟩⟩

theorem RepT.goes {M M' : Mem} (hM : Mem.le M M') {τ τ' : Ab} {γ γ' : Nat → Value} (hg : Goes τ τ' γ γ') {s : T1} {v : Value} (h : RepT M τ γ s v) : RepT M' τ' γ' s v := by
  cases s with
  | d x => exact Rep.mono hM h
  | av k m =>
    obtain ⟨⟨h1, h0⟩, h2⟩ := h
    refine ⟨⟨(hg k h1).1, h0⟩, fun A' hA' => ?_⟩
    obtain ⟨A, hA, _, hl, hγ⟩ := (hg k h1).2.1 A' hA'
    obtain ⟨h3, h4⟩ := h2 A hA
    exact ⟨by omega, by rw [hγ]; exact h4⟩
  | fv k m =>
    obtain ⟨⟨h1, h0⟩, h2⟩ := h
    refine ⟨⟨(hg k h1).1, h0⟩, fun A' hA' => ?_⟩
    obtain ⟨A, hA, _, hl⟩ := (hg k h1).2.2.2 A' hA'
    obtain ⟨h3, h4⟩ := h2 A hA
    exact ⟨by omega, by rw [(hg k h1).2.2.1]; exact h4⟩

theorem RepS.goes {M M' : Mem} (hM : Mem.le M M') {τ τ' : Ab} {γ γ' : Nat → Value} (hg : Goes τ τ' γ γ') {s : S} {v : Value} (h : RepS M τ γ s v) : RepS M' τ' γ' s v := by
  cases s with
  | junk => trivial
  | un => exact h
  | nil => exact h
  | d x => exact Rep.mono hM h
  | el x => obtain ⟨ad, h1, h2⟩ := h; exact ⟨ad, h1, h2.mono hM⟩
  | av k m => exact RepT.goes (s := .av k m) hM hg h
  | ae k i =>
    obtain ⟨h1, h2⟩ := h
    refine ⟨(hg k h1).1, fun A' hA' => ?_⟩
    obtain ⟨A, hA, hs, hl, hγ⟩ := (hg k h1).2.1 A' hA'
    obtain ⟨h3, g, h4, h5⟩ := h2 A hA
    exact ⟨by omega, g, by rw [hγ]; exact h4, by rw [hs]; exact h5⟩
  | af k i f =>
    obtain ⟨h1, h2⟩ := h
    refine ⟨(hg k h1).1, fun A' hA' => ?_⟩
    obtain ⟨A, hA, hs, hl, hγ⟩ := (hg k h1).2.1 A' hA'
    obtain ⟨h3, g, h4, h5⟩ := h2 A hA
    exact ⟨by omega, g, by rw [hγ]; exact h4, by rw [hs]; exact h5⟩
  | fn f => exact h
  | tup xs => obtain ⟨vs, h1, h2, h3⟩ := h; exact ⟨vs, h1, h2, fun j s hs => (h3 j s hs).goes hM hg⟩
  | fv k m => exact RepT.goes (s := .fv k m) hM hg h
  | fe k i =>
    obtain ⟨⟨h1, h0⟩, h2⟩ := h
    refine ⟨⟨(hg k h1).1, h0⟩, fun A' hA' => ?_⟩
    obtain ⟨A, hA, hs, hl⟩ := (hg k h1).2.2.2 A' hA'
    obtain ⟨h3, g, h4, h5⟩ := h2 A hA
    exact ⟨by omega, g, by rw [(hg k h1).2.2.1]; exact h4, by rw [hs]; exact h5⟩
  | ff k i f =>
    obtain ⟨⟨h1, h0⟩, h2⟩ := h
    refine ⟨⟨(hg k h1).1, h0⟩, fun A' hA' => ?_⟩
    obtain ⟨A, hA, hs, hl⟩ := (hg k h1).2.2.2 A' hA'
    obtain ⟨h3, g, h4, h5⟩ := h2 A hA
    exact ⟨by omega, g, by rw [(hg k h1).2.2.1]; exact h4, by rw [hs]; exact h5⟩
  | dr fs => obtain ⟨cs, h1, h2, h3⟩ := h; exact ⟨cs, h1, h2, fun j d hd => ⟨(h3 j d hd).1, (h3 j d hd).2.goes hM fun k hk => ⟨(hg k hk).1, (hg k hk).2.2.1⟩⟩⟩
  | fa B => exact fun k m hk => (hg k (h k m hk)).1
  | aw k l m =>
    obtain ⟨⟨h1, h0⟩, h2⟩ := h
    refine ⟨⟨(hg k h1).1, h0⟩, fun A' hA' => ?_⟩
    obtain ⟨A, hA, hs, hl, hγ⟩ := (hg k h1).2.1 A' hA'
    obtain ⟨h3, h4⟩ := h2 A hA
    exact ⟨⟨h3.1, by omega⟩, by rw [hγ, hs]; exact h4⟩

/-! ### Trees -/
/-- The cells of a list of elements. -/
def fl (xs : List D) : List D := xs.flatMap D.fl
def D.isRef : D → Bool
  | .ref _ _ => true
  | .own _ _ _ => true
  | .jk => true
  | _ => false

/-- The value of a cell of a tree, which owns at most the blocks Φ. -/
inductive CellT (w : World) (M : Mem) (us : Nat → Bool) (γ : Nat → Value) : D → Value → (Nat → Prop) → Prop
  | pl (d : D) (v : Value) (Φ : Nat → Prop) (h : Rep M d v) (hc : d.isCell = true) : CellT w M us γ d v Φ
  | ref (k m : Nat) (v : Value) (Φ : Nat → Prop) (h : us k = true) (hl : LenV v m) (hv : v = γ k) : CellT w M us γ (.ref k m) v Φ
  | jk (v : Value) (Φ : Nat → Prop) (h : v.oneCell' = true) : CellT w M us γ .jk v Φ
  | own (e : TypeId) (sz : Nat) (xs : List D) (v : Value) (Φ : Nat → Prop) (cs : List Value) (ψ : Nat → Nat → Prop) (ho : w.ownsRow 0 e sz v xs.length cs) (hp : 0 < sz)
      (hw : ∀ x, x ∈ xs → x.width = sz) (hc : ∀ (p : Nat) (d : D) (u : Value), (fl xs)[p]? = some d → cs[p]? = some u → CellT w M us γ d u (ψ p))
      (hb : ∀ g, v.ownBlock = some g → Φ g ∧ ∀ p, ¬ ψ p g) (hs : ∀ p g, ψ p g → Φ g) (hd : ∀ p p' g, ψ p g → ψ p' g → p = p') : CellT w M us γ (.own e sz xs) v Φ

theorem CellT.oneCell {w : World} {M : Mem} {us : Nat → Bool} {γ : Nat → Value} {d : D} {v : Value} {Φ : Nat → Prop} (h : CellT w M us γ d v Φ) : v.oneCell' = true := by
  cases h with
  | pl _ _ _ h hc => exact h.oneCell hc
  | ref k m _ _ h hl hv => obtain ⟨a, c, e⟩ := hl; rw [e]; rfl
  | jk _ _ h => exact h
  | own e sz xs _ _ cs ψ ho => rcases ho.2 with ⟨e, _⟩ | ⟨g, cap, cur, e, _⟩ <;> rw [e] <;> rfl

theorem CellT.keep {w w' : World} {M M' : Mem} {us us' : Nat → Bool} {γ γ' : Nat → Value} (hM : Mem.le M M') (hu : ∀ k, us k = true → us' k = true ∧ γ' k = γ k) {d : D} {v : Value} {Φ : Nat → Prop}
    (h : CellT w M us γ d v Φ) : (∀ g, Φ g → w'.heap[g]? = w.heap[g]?) → CellT w' M' us' γ' d v Φ := by
  induction h with
  | pl d v Φ h hc => exact fun _ => .pl d v Φ (h.mono hM) hc
  | ref k m v Φ h hl hv => exact fun _ => .ref k m v Φ (hu k h).1 hl (by rw [(hu k h).2]; exact hv)
  | jk v Φ h => exact fun _ => .jk v Φ h
  | own e sz xs v Φ cs ψ ho hp hw hc hb hs hd ih =>
    intro hg
    refine .own e sz xs v Φ cs ψ ⟨ho.1, ?_⟩ hp hw (fun p d u h1 h2 => ih p d u h1 h2 fun g hg2 => hg g (hs p g hg2)) hb hs hd
    rcases ho.2 with hl | ⟨g, cap, cur, hv, r1, r2, r3⟩
    · exact .inl hl
    · exact .inr ⟨g, cap, cur, hv, r1, by rw [hg g (hb g (by rw [hv]; rfl)).1]; exact r2, r3⟩

theorem CellT.wide {w : World} {M : Mem} {us : Nat → Bool} {γ : Nat → Value} {d : D} {v : Value} {Φ Φ' : Nat → Prop} (h : CellT w M us γ d v Φ) (hΦ : ∀ g, Φ g → Φ' g) : CellT w M us γ d v Φ' := by
  cases h with
  | pl d v _ h hc => exact .pl d v _ h hc
  | ref k m v _ h hl hv => exact .ref k m v _ h hl hv
  | jk v _ h => exact .jk v _ h
  | own e sz xs v _ cs ψ ho hp hw hc hb hs hd => exact .own e sz xs v _ cs ψ ho hp hw hc (fun g hg => ⟨hΦ g (hb g hg).1, (hb g hg).2⟩) (fun p g h => hΦ g (hs p g h)) hd

/-- The tree arrays lie in the world; φ k: the blocks of tree array k. -/
structure TrOK (x : Nat → Prop) (w0 w : World) (M : Mem) (us : Nat → Bool) (c f : Nat → Option Arr) (γ : Nat → Value) (φ : Nat → Nat → Prop) : Prop where
  row : ∀ k B, f k = some B → us k = true ∧ c k = none ∧ CellT w M us γ (.own B.e B.sz B.xs) (γ k) (φ k)
  new : ∀ k B g, f k = some B → φ k g → g < w.heap.size ∧ (w0.heap.size ≤ g ∨ x g) ∧ (∀ off sp, M ⟨g, off, sp⟩ = none) ∧ ∀ j A, c j = some A → (γ j).ownBlock ≠ some g
  dis : ∀ k k' B B' g, f k = some B → f k' = some B' → φ k g → φ k' g → k = k'

theorem TrOK.keep {x : Nat → Prop} {w0 w w' : World} {M M' : Mem} {us us' : Nat → Bool} {c c' f f' : Nat → Option Arr} {γ γ' : Nat → Value} {φ : Nat → Nat → Prop} (h : TrOK x w0 w M us c f γ φ)
    (hM : Mem.le M M') (hu : ∀ k, us k = true → us' k = true ∧ γ' k = γ k) (hf : ∀ k B, f' k = some B → f k = some B) (hc : ∀ k A, c' k = some A → us k = true → ∃ A', c k = some A') (hsz : w.heap.size ≤ w'.heap.size)
    (hb : ∀ g, g < w.heap.size → (w0.heap.size ≤ g ∨ x g) → (∀ off sp, M ⟨g, off, sp⟩ = none) → (∀ j A, c j = some A → (γ j).ownBlock ≠ some g) →
      w'.heap[g]? = w.heap[g]? ∧ (∀ off sp, M' ⟨g, off, sp⟩ = none) ∧ ∀ j A, c' j = some A → (γ' j).ownBlock ≠ some g) : TrOK x w0 w' M' us' c' f' γ' φ := by
  refine ⟨fun k B hB => ?_, fun k B g hB hg => ?_, fun k k' B B' g h1 h2 => h.dis k k' B B' g (hf k B h1) (hf k' B' h2)⟩
  · obtain ⟨h1, h2, h3⟩ := h.row k B (hf k B hB)
    refine ⟨(hu k h1).1, ?_, ?_⟩
    · cases hk : c' k with
      | none => rfl
      | some A => obtain ⟨A', hA'⟩ := hc k A hk h1; rw [h2] at hA'; cases hA'
    · rw [(hu k h1).2]
      exact h3.keep hM hu fun g hg => by
        obtain ⟨a, b, c, d⟩ := h.new k B g (hf k B hB) hg
        exact (hb g a b c d).1
  · obtain ⟨a, b, c, d⟩ := h.new k B g (hf k B hB) hg
    obtain ⟨e1, e2, e3⟩ := hb g a b c d
    exact ⟨Nat.lt_of_lt_of_le a hsz, b, e2, e3⟩

/-- x: old blocks that the call may write; pn: the keys of lent arrays, which stay what they are. -/
structure Env where
  x : Nat → Prop
  pn : Nat → Option Value

/-- An own array lies in the world. -/
structure OwnOK (X : Env) (w0 w : World) (M : Mem) (sh : Bool) (A : Arr) (v : Value) : Prop where
  own : ∃ cs : List Value, w.ownsRow 0 A.e A.sz v A.xs.length cs ∧ CellsOK M A.sz A.xs cs ∧
    ∀ g, v.ownBlock = some g → ∀ (off : Nat) (sp : Option Nat) (u : Value), M ⟨g, off, sp⟩ = some u → sh = true ∧ off < cs.length ∧ sp = none
  pos : 0 < A.sz
  new : ∀ g, v.ownBlock = some g → w0.heap.size ≤ g ∨ X.x g

/-- THE SIMULATION. X: old blocks that the call may write (arrays handed in as its own). -/
structure SimW (X : Env) (w0 : World) (M0 : Mem) (n : Nat) (τ : Ab) (ac : Act) (w : World) (M : Mem) (γ : Nat → Value) : Prop where
  dfr : ac.defers = []
  fsz : ac.tmps.size = n
  os : w.os = w0.os
  tape : w.tape = w0.tape
  output : w.output = w0.output
  hsz : w0.heap.size ≤ w.heap.size
  frame : ∀ k, k < w0.heap.size → ¬ X.x k → w.heap[k]? = w0.heap[k]?
  m0 : Mem.le M0 M
  mw : ∀ a v, M a = some v → w.cell? a = some v
  mn : ∀ a v, M a = some v → M0 a = some v ∨ w0.heap.size ≤ a.block ∨ X.x a.block
  slots : ∀ t, RepS M τ γ (τ.s t) (ac.tmps.getD t undef)
  ow : ∀ k A, τ.c k = some A → τ.us k = true ∧ OwnOK X w0 w M (τ.sh k) A (γ k)
  di : ∀ k k' A A' g, τ.c k = some A → τ.c k' = some A' → (γ k).ownBlock = some g → (γ k').ownBlock = some g → k = k'
  pin : ∀ k v, X.pn k = some v → 100000 ≤ k ∧ (n ≤ k ∧ k < 200000) ∧ (∀ A, τ.c k = some A → γ k = v) ∧ ∀ B, τ.f k = some B → γ k = v
  nb : n ≤ 100000
  tr : ∃ φ, TrOK X.x w0 w M τ.us τ.c τ.f γ φ

def Sim (X : Env) (w0 : World) (M0 : Mem) (n : Nat) (τ : Ab) (ac : Act) (w : World) : Prop := ∃ M γ, SimW X w0 M0 n τ ac w M γ

def constS : Value → S
  | .int k n => .d (.sc (.int k n))
  | .bool b => .d (.sc (.bool b))
  | .string s => .d (.sc (.string s))
  | .slice none 0 0 => .nil
  | _ => .junk

def Ab.val (τ : Ab) : Operand → S
  | .tmp t => τ.s t
  | .const v => constS v
  | .global _ => .junk
  | .func f => .fn f

theorem constS_ok (M : Mem) (τ : Ab) (γ : Nat → Value) (v : Value) : RepS M τ γ (constS v) v := by
  unfold constS
  split <;> first | exact Rep.sc _ rfl | rfl | trivial

section
variable {X : Env} {w0 : World} {M0 : Mem} {n : Nat} {τ : Ab} {ac : Act} {w : World} {M : Mem} {γ : Nat → Value}

theorem SimW.val (h : SimW X w0 M0 n τ ac w M γ) (x : Operand) : RepS M τ γ (τ.val x) (ac.eval x) := by
  cases x with
  | tmp t => exact h.slots t
  | const v => exact constS_ok M τ γ v
  | global g => trivial
  | func f => rfl

def Ab.put (τ : Ab) (dst : Option Nat) (s : S) : Ab :=
  match dst with
  | some d => { τ with s := fun t => if t = d then s else τ.s t }
  | none => τ

theorem put_f (τ : Ab) (dst : Option Nat) (s : S) (hd : ∀ d, dst = some d → d < 1000000) : (τ.put dst s).f = τ.f := by
  cases dst with
  | none => rfl
  | some d =>
    funext k
    have h1 := hd d rfl
    simp only [Ab.f, Ab.put]
    rw [if_neg (by omega)]

theorem Goes.put (τ : Ab) (γ : Nat → Value) (dst : Option Nat) (s : S) (hd : ∀ d, dst = some d → d < 1000000) : Goes τ (τ.put dst s) γ γ := by
  refine .of (fun k B h => by rw [put_f τ dst s hd] at h; exact h) (fun _ _ => rfl) fun k hk => ?_
  cases dst <;> exact ⟨hk, fun A hA => ⟨A, hA, rfl, Nat.le_refl _⟩⟩

theorem SimW.put (h : SimW X w0 M0 n τ ac w M γ) {dst : Option Nat} {s : S} {v : Value} (hd : ∀ d, dst = some d → d < n) (hs : RepS M τ γ s v) :
    SimW X w0 M0 n (τ.put dst s) (ac.put dst v) w M γ := by
  cases dst with
  | none => exact h
  | some d =>
    have hd' := hd d rfl
    have hnb := h.nb
    have hd6 : ∀ d', some d = some d' → d' < 1000000 := fun d' e => by cases e; omega
    have hpf := put_f τ (some d) s hd6
    refine ⟨h.dfr, by simp [Act.put, h.fsz], h.os, h.tape, h.output, h.hsz, h.frame, h.m0, h.mw, h.mn, fun t => ?_, h.ow, h.di, fun k v hk => ?_, hnb, by rw [hpf]; exact h.tr⟩
    rotate_left
    · rw [hpf]; exact h.pin k v hk
    by_cases ht : t = d
    · subst ht
      have e : (ac.put (some t) v).tmps.getD t undef = v := by
        simp [Act.put, h.fsz, hd']
      rw [e]
      have e2 : (τ.put (some t) s).s t = s := by simp [Ab.put]
      rw [e2]
      exact hs.goes (Mem.le_refl M) (Goes.put τ γ (some t) s hd6)
    · have e : (ac.put (some d) v).tmps.getD t undef = ac.tmps.getD t undef := by
        simp [Act.put, Array.getElem?_setIfInBounds_ne (Ne.symm ht)]
      rw [e]
      have e2 : (τ.put (some d) s).s t = τ.s t := by simp [Ab.put, ht]
      rw [e2]
      exact (h.slots t).goes (Mem.le_refl M) (Goes.put τ γ (some d) s hd6)

theorem OwnOK.keep {w' : World} {M' : Mem} {sh sh' : Bool} {A : Arr} {v : Value} (h : OwnOK X w0 w M sh A v) (hM : Mem.le M M')
    (hb : ∀ g, v.ownBlock = some g → w'.heap[g]? = w.heap[g]?)
    (hm : ∀ g, v.ownBlock = some g → ∀ (off : Nat) (sp : Option Nat) (u : Value), M' ⟨g, off, sp⟩ = some u → M ⟨g, off, sp⟩ = some u) (hsh : sh = true → sh' = true) : OwnOK X w0 w' M' sh' A v := by
  obtain ⟨⟨cs, h1, h2, h3⟩, hp, hn⟩ := h
  refine ⟨⟨cs, ⟨h1.1, ?_⟩, h2.mono hM, fun g hg off sp u hu => ?_⟩, hp, hn⟩
  · rcases h1.2 with hl | ⟨g, cap, cur, hv, r1, r2, r3⟩
    · exact .inl hl
    · refine .inr ⟨g, cap, cur, hv, r1, ?_, r3⟩
      rw [hb g (by rw [hv]; rfl)]
      exact r2
  · obtain ⟨a1, a2, a3⟩ := h3 g hg off sp u (hm g hg off sp u hu)
    exact ⟨hsh a1, a2, a3⟩

theorem OwnOK.lt {sh : Bool} {A : Arr} {v : Value} (h : OwnOK X w0 w M sh A v) : ∀ g, v.ownBlock = some g → g < w.heap.size := by
  intro g hg
  obtain ⟨⟨cs, h1, _⟩, _⟩ := h
  exact (h1.lt g hg).2

/-- Draws do not matter. -/
theorem SimW.drew (h : SimW X w0 M0 n τ ac w M γ) (k : Nat) : SimW X w0 M0 n τ ac { w with drawn := k } M γ :=
  ⟨h.dfr, h.fsz, h.os, h.tape, h.output, h.hsz, h.frame, h.m0, h.mw, h.mn, h.slots, fun k A hA => ⟨(h.ow k A hA).1, (h.ow k A hA).2.keep (Mem.le_refl M) (fun _ _ => rfl) (fun _ _ _ _ _ hu => hu) id⟩, h.di, h.pin, h.nb, by
    obtain ⟨φ, ht⟩ := h.tr
    exact ⟨φ, ht.keep (Mem.le_refl M) (fun _ h => ⟨h, rfl⟩) (fun _ _ h => h) (fun k A h _ => ⟨A, h⟩) (Nat.le_refl _) fun g _ _ a b => ⟨rfl, a, b⟩⟩⟩

/-! ### A new block -/
def Ab.al (τ : Ab) (k : Nat) (A : Arr) : Ab :=
  { τ with c := fun j => if j = k then some A else τ.c j, us := fun j => if j = k then true else τ.us j }

def upd (γ : Nat → Value) (k : Nat) (v : Value) : Nat → Value := fun j => if j = k then v else γ j

theorem Goes.al (τ : Ab) (γ : Nat → Value) {k : Nat} {A : Arr} {v : Value} (hk : τ.us k = false) : Goes τ (τ.al k A) γ (upd γ k v) := by
  have ne : ∀ j, τ.us j = true → j ≠ k := fun j hj e => by rw [e, hk] at hj; cases hj
  refine .of (fun _ _ h => h) (fun j hj => by simp [upd, ne j hj]) fun j hj => ?_
  have hne := ne j hj
  refine ⟨by simp [Ab.al, hne, hj], fun A' hA' => ⟨A', ?_, rfl, Nat.le_refl _⟩⟩
  simpa [Ab.al, hne] using hA'

theorem no_mem_new (h : SimW X w0 M0 n τ ac w M γ) {g : Nat} (hg : w.heap.size ≤ g) (off : Nat) (sp : Option Nat) : M ⟨g, off, sp⟩ = none := by
  cases hm : M ⟨g, off, sp⟩ with
  | none => rfl
  | some u =>
    have := block_lt_of_cell (h.mw _ _ hm)
    simp only at this
    omega

theorem SimW.al (h : SimW X w0 M0 n τ ac w M γ) {k : Nat} {A : Arr} {w' : World} {M' : Mem} {v : Value} (hk : τ.us k = false) (hkn : k < n)
    (hb : Below w.heap.size w w') (hle : Mem.le M M') (hmw : ∀ a v, M' a = some v → w'.cell? a = some v) (hmn : ∀ a v, M' a = some v → M a = some v ∨ w.heap.size ≤ a.block)
    (cs : List Value) (hown : w'.ownsRow w.heap.size A.e A.sz v A.xs.length cs) (hcs : CellsOK M' A.sz A.xs cs) (hpos : 0 < A.sz)
    (hnm : ∀ g, v.ownBlock = some g → ∀ off sp, M' ⟨g, off, sp⟩ = none) :
    SimW X w0 M0 n (τ.al k A) ac w' M' (upd γ k v) := by
  refine ⟨h.dfr, h.fsz, hb.os.trans h.os, hb.tape.trans h.tape, hb.output.trans h.output, Nat.le_trans h.hsz hb.size,
    fun j hj hX => (hb.block j (Nat.lt_of_lt_of_le hj h.hsz)).trans (h.frame j hj hX), Mem.le_trans h.m0 hle, hmw, fun a u hau => ?_, fun t => ?_, fun j A' hA' => ?_, fun j j' A1 A2 g h1 h2 g1 g2 => ?_, fun j v' hj => ?_, h.nb, ?_⟩
  rotate_right
  · obtain ⟨φ, ht⟩ := h.tr
    refine ⟨φ, ht.keep hle (fun j hj => ?_) (fun _ _ h => h) (fun j A' hA' hj => ?_) hb.size fun g hg hg2 hg3 hg4 => ⟨hb.block g hg, fun off sp => ?_, fun j A' hA' => ?_⟩⟩
    · have hne : j ≠ k := fun e => by rw [e, hk] at hj; cases hj
      exact ⟨by simp [Ab.al, hj], by simp [upd, hne]⟩
    · have hne : j ≠ k := fun e => by rw [e, hk] at hj; cases hj
      exact ⟨A', by simpa [Ab.al, hne] using hA'⟩
    · cases hm : M' ⟨g, off, sp⟩ with
      | none => rfl
      | some u =>
        rcases hmn _ u hm with h1 | h1
        · rw [hg3] at h1; cases h1
        · simp only at h1; omega
    · by_cases e : j = k
      · subst e
        simp only [upd, if_true]
        intro e2
        have := (hown.lt g e2).1
        omega
      · rw [show upd γ k v j = γ j by simp [upd, e]]
        exact hg4 j A' (by simpa [Ab.al, e] using hA')
  · rcases hmn a u hau with h1 | h1
    · exact h.mn a u h1
    · exact .inr (.inl (Nat.le_trans h.hsz h1))
  · exact (h.slots t).goes hle (Goes.al τ γ hk)
  · by_cases hj : j = k
    · subst hj
      have e : A' = A := by simpa [Ab.al] using hA'.symm
      subst e
      refine ⟨by simp [Ab.al], ⟨⟨cs, ?_, hcs, ?_⟩, hpos, ?_⟩⟩
      · refine ⟨hown.1, ?_⟩
        simp only [upd, if_true]
        rcases hown.2 with hl | ⟨g, cap, cur, hv, r1, r2⟩
        · exact .inl hl
        · exact .inr ⟨g, cap, cur, hv, Nat.zero_le _, r2⟩
      · intro g hg off sp u hu
        simp only [upd, if_true] at hg
        rw [hnm g hg off sp] at hu
        cases hu
      · intro g hg
        simp only [upd, if_true] at hg
        exact .inl (Nat.le_trans h.hsz (hown.lt g hg).1)
    · have hA : τ.c j = some A' := by simpa [Ab.al, hj] using hA'
      obtain ⟨h1, h2⟩ := h.ow j A' hA
      refine ⟨by simp [Ab.al, hj, h1], ?_⟩
      have e : upd γ k v j = γ j := by simp [upd, hj]
      rw [e]
      refine h2.keep hle (fun g hg => hb.block g (h2.lt g hg)) (fun g hg off sp u hu => ?_) id
      rcases hmn _ u hu with h3 | h3
      · exact h3
      · have := h2.lt g hg
        simp only at h3
        omega
  · by_cases e1 : j = k
    · by_cases e2 : j' = k
      · rw [e1, e2]
      · exfalso
        subst e1
        have hA : τ.c j' = some A2 := by simpa [Ab.al, e2] using h2
        simp only [upd, if_true] at g1
        simp only [upd, e2, if_false] at g2
        have := (h.ow j' A2 hA).2.lt g g2
        have := (hown.lt g g1).1
        omega
    · by_cases e2 : j' = k
      · exfalso
        subst e2
        have hA : τ.c j = some A1 := by simpa [Ab.al, e1] using h1
        simp only [upd, if_true] at g2
        simp only [upd, e1, if_false] at g1
        have := (h.ow j A1 hA).2.lt g g1
        have := (hown.lt g g2).1
        omega
      · simp only [upd, e1, e2, if_false] at g1 g2
        exact h.di j j' A1 A2 g (by simpa [Ab.al, e1] using h1) (by simpa [Ab.al, e2] using h2) g1 g2
  · obtain ⟨p1, p2, p3, p4⟩ := h.pin j v' hj
    have hne : j ≠ k := by omega
    have e : upd γ k v j = γ j := by simp [upd, hne]
    refine ⟨p1, p2, fun A' hA' => ?_, fun B hB => by rw [e]; exact p4 B hB⟩
    have hA : τ.c j = some A' := by simpa [Ab.al, hne] using hA'
    rw [e]; exact p3 A' hA

/-- A new block of cells laid by the operation itself. -/
theorem SimW.alNew (h : SimW X w0 M0 n τ ac w M γ) {k : Nat} {A : Arr} (cs : List Value) (hk : τ.us k = false) (hkn : k < n) (hcs : CellsOK M A.sz A.xs cs) (hpos : 0 < A.sz) (hm : A.xs.length ≤ maxLen) :
    SimW X w0 M0 n (τ.al k A) ac (w.alloc (.cells cs.toArray A.e)) M (upd γ k (.slice (some ⟨w.heap.size, 0, none⟩) A.xs.length A.xs.length)) := by
  refine h.al hk hkn ((Below.refl _ _).alloc (Nat.le_refl _) _) (Mem.le_refl M) (fun a v hav => ?_) (fun a v hav => .inl hav) cs ?_ hcs hpos (fun g hg off sp => ?_)
  · have h1 := h.mw a v hav
    rw [World.cell?_alloc_lt w _ a (block_lt_of_cell h1)]
    exact h1
  · refine ⟨hcs.1, .inr ⟨w.heap.size, A.xs.length, cs.toArray, rfl, Nat.le_refl _, heap_alloc_new w _, Nat.le_refl _, hm, by simp [hcs.1], by simp [← hcs.1]⟩⟩
  · have e : w.heap.size = g := Option.some.inj hg
    exact no_mem_new h (Nat.le_of_eq e) off sp

end
end Go.DL

namespace Go.DL
open Go.RowKit
section
variable {X : Env} {w0 : World} {M0 : Mem} {n : Nat} {τ : Ab} {ac : Act} {w : World} {M : Mem} {γ : Nat → Value}

/-! ### Sharing -/
def Ab.share (τ : Ab) (k : Nat) : Ab := { τ with sh := fun j => if j = k then true else τ.sh j }

theorem Goes.share (τ : Ab) (γ : Nat → Value) (k : Nat) : Goes τ (τ.share k) γ γ := .of (fun _ _ h => h) (fun _ _ => rfl) fun _ hj => ⟨hj, fun A hA => ⟨A, hA, rfl, Nat.le_refl _⟩⟩

theorem cellsOK_take {M : Mem} {sz : Nat} {xs : List D} {cs : List Value} (h : CellsOK M sz xs cs) {m : Nat} (hm : m ≤ xs.length) : CellsOK M sz (xs.take m) (cs.take (m * sz)) := by
  obtain ⟨h1, h2⟩ := h
  have hle : m * sz ≤ xs.length * sz := Nat.mul_le_mul_right _ hm
  refine ⟨by rw [List.length_take, List.length_take, h1, Nat.min_eq_left hle, Nat.min_eq_left hm], fun j x hx => ?_⟩
  rw [List.getElem?_take] at hx
  split at hx
  · rename_i hj
    obtain ⟨hw, he1, he2⟩ := h2 j x hx
    have hlt : j * sz + sz ≤ m * sz := by
      have := Nat.mul_le_mul_right sz (show j + 1 ≤ m from hj)
      rw [Nat.add_mul, Nat.one_mul] at this
      exact this
    refine ⟨hw, fun hc => ?_, fun fs hfs i f hi => ?_⟩
    · obtain ⟨v, hv1, hv2⟩ := he1 hc
      refine ⟨v, ?_, hv2⟩
      rw [List.getElem?_take, if_pos]
      · exact hv1
      · have : x.width = 1 := by cases x <;> first | rfl | cases hc
        omega
    · obtain ⟨h0, v, hv1, hv2⟩ := he2 fs hfs i f hi
      refine ⟨h0, v, ?_, hv2⟩
      rw [List.getElem?_take, if_pos]
      · exact hv1
      · have hwf : fs.length = sz := by rw [hfs] at hw; exact hw
        have := (List.getElem?_eq_some_iff.1 hi).1
        omega
  · cases hx

theorem rep_of_cells {M : Mem} {sz : Nat} {xs : List D} {cs : List Value} (h : CellsOK M sz xs cs) {ad : Addr} (hsp : ad.spot = none) {cap : Nat} (hcap : xs.length ≤ cap)
    (hm : ∀ j u, cs[j]? = some u → M (ad.add j) = some u) : Rep M (.sl xs) (.slice (some ad) xs.length cap) := by
  obtain ⟨h1, h2⟩ := h
  refine .sl xs ad cap sz (fun j => cs.getD j undef) hcap hsp (fun x hx => ?_) (fun j hj => ?_) (fun j x hx hc => ?_) (fun j fs hx f hf => ?_) (fun j fs hx i f hi => ?_)
  · obtain ⟨j, hj⟩ := List.getElem?_of_mem hx
    exact (h2 j x hj).1
  · have : cs[j]? = some (cs[j]'(by omega)) := List.getElem?_eq_getElem (by omega)
    rw [hm j _ this]
    simp [this]
  · obtain ⟨v, hv1, hv2⟩ := (h2 j x hx).2.1 hc
    simp only [List.getD_eq_getElem?_getD, hv1]
    exact hv2
  · obtain ⟨i, hi⟩ := List.getElem?_of_mem hf
    exact ((h2 j _ hx).2.2 fs rfl i f hi).1
  · obtain ⟨_, v, hv1, hv2⟩ := (h2 j _ hx).2.2 fs rfl i f hi
    simp only [List.getD_eq_getElem?_getD, hv1]
    exact hv2

theorem addr_add0 (g j : Nat) : (⟨g, 0, none⟩ : Addr).add j = ⟨g, j, none⟩ := by unfold Addr.add; split <;> simp_all

theorem own_form {w : World} {b e sz n : Nat} {v : Value} {cs : List Value} (h : w.ownsRow b e sz v n cs) : (v = .slice none 0 0 ∧ n = 0) ∨ ∃ g cap, v = .slice (some ⟨g, 0, none⟩) n cap ∧ n ≤ cap ∧ cap ≤ maxLen := by
  rcases h.2 with hl | ⟨g, cap, cur, hv, _, _, h1, h2, _⟩
  · exact .inl hl
  · exact .inr ⟨g, cap, hv, h1, h2⟩

theorem own_len {w : World} {b e sz n : Nat} {v : Value} {cs : List Value} (h : w.ownsRow b e sz v n cs) : LenV v n := by
  rcases own_form h with ⟨e, h0⟩ | ⟨g, cap, e, _, _⟩
  · exact ⟨_, _, by rw [e, h0]⟩
  · exact ⟨_, _, e⟩

/-- An own array handed on as immutable data. -/
theorem SimW.share (h : SimW X w0 M0 n τ ac w M γ) {k m : Nat} {A : Arr} (hk : τ.c k = some A) (hm : m ≤ A.xs.length) :
    ∃ M', SimW X w0 M0 n (τ.share k) ac w M' γ ∧ Mem.le M M' ∧ Rep M' (.sl (A.xs.take m)) (cutV (γ k) m) := by
  obtain ⟨hus, ⟨⟨cs, hown, hcs, hM⟩, hpos, hnew⟩⟩ := h.ow k A hk
  rcases own_form hown with ⟨hv, hn⟩ | ⟨g, cap, hv, hnc, hcm⟩
  · have hm0 : m = 0 := by omega
    refine ⟨M, ⟨h.dfr, h.fsz, h.os, h.tape, h.output, h.hsz, h.frame, h.m0, h.mw, h.mn, fun t => (h.slots t).goes (Mem.le_refl M) (Goes.share τ γ k), fun j A' hA' => ?_, h.di, h.pin, h.nb, h.tr⟩, Mem.le_refl M, ?_⟩
    · obtain ⟨h1, h2⟩ := h.ow j A' hA'
      exact ⟨h1, h2.keep (Mem.le_refl M) (fun _ _ => rfl) (fun _ _ _ _ _ hu => hu) (by intro e; simp [Ab.share, e])⟩
    · subst hm0
      rw [hv]
      exact .nil none 0
  · have hob : (γ k).ownBlock = some g := by rw [hv]; rfl
    have hcell := hown.cells hob
    let M' : Mem := fun a => if a.block = g ∧ a.spot = none ∧ a.off < cs.length then cs[a.off]? else M a
    have hle : Mem.le M M' := by
      intro a v hav
      show (if _ then _ else _) = _
      by_cases hc : a.block = g ∧ a.spot = none ∧ a.off < cs.length
      · rw [if_pos hc]
        obtain ⟨e1, e2, e3⟩ := hc
        obtain ⟨ab, ao, asp⟩ := a
        simp only at e1 e2 e3
        subst e1; subst e2
        have h1 := hcell ao _ (List.getElem?_eq_getElem e3)
        rw [addr_add0] at h1
        rw [h.mw _ _ hav] at h1
        rw [List.getElem?_eq_getElem e3]
        exact h1.symm
      · rw [if_neg hc]; exact hav
    have hin : ∀ j u, cs[j]? = some u → M' ((⟨g, 0, none⟩ : Addr).add j) = some u := by
      intro j u hu
      rw [addr_add0]
      have hj := (List.getElem?_eq_some_iff.1 hu).1
      show (if _ then _ else _) = _
      rw [if_pos ⟨rfl, rfl, hj⟩]
      exact hu
    refine ⟨M', ⟨h.dfr, h.fsz, h.os, h.tape, h.output, h.hsz, h.frame, Mem.le_trans h.m0 hle, fun a v hav => ?_, fun a v hav => ?_, fun t => (h.slots t).goes hle (Goes.share τ γ k), fun j A' hA' => ?_, h.di, h.pin, h.nb, ?_⟩, hle, ?_⟩
    rotate_left 3
    · obtain ⟨φ, ht⟩ := h.tr
      refine ⟨φ, ht.keep hle (fun _ h => ⟨h, rfl⟩) (fun _ _ h => h) (fun j A' hA' _ => ⟨A', hA'⟩) (Nat.le_refl _) fun g' _ _ hg3 hg4 => ⟨rfl, fun off sp => ?_, hg4⟩⟩
      show (if _ then _ else _) = _
      rw [if_neg (fun (hc : g' = g ∧ _) => hg4 k A hk (hc.1 ▸ hob))]
      exact hg3 off sp
    rotate_left 1
    · change (if _ then _ else _) = _ at hav
      by_cases hc : a.block = g ∧ a.spot = none ∧ a.off < cs.length
      · rw [if_pos hc] at hav
        obtain ⟨e1, e2, e3⟩ := hc
        obtain ⟨ab, ao, asp⟩ := a
        simp only at e1 e2 e3
        subst e1; subst e2
        have h1 := hcell ao _ hav
        rwa [addr_add0] at h1
      · rw [if_neg hc] at hav
        exact h.mw _ _ hav
    · change (if _ then _ else _) = _ at hav
      by_cases hc : a.block = g ∧ a.spot = none ∧ a.off < cs.length
      · rw [hc.1]
        exact .inr (hnew g hob)
      · rw [if_neg hc] at hav
        exact h.mn _ _ hav
    · obtain ⟨h1, h2⟩ := h.ow j A' hA'
      refine ⟨h1, ?_⟩
      by_cases hj : j = k
      · subst hj
        have e : A' = A := by
          have : τ.c j = some A' := hA'
          rw [hk] at this
          exact (Option.some.inj this).symm
        subst e
        refine ⟨⟨cs, hown, hcs.mono hle, fun g' hg' off sp u hu => ?_⟩, hpos, hnew⟩
        rw [hob] at hg'
        have e := Option.some.inj hg'
        subst e
        change (if _ then _ else _) = _ at hu
        by_cases hc : (⟨g, off, sp⟩ : Addr).block = g ∧ (⟨g, off, sp⟩ : Addr).spot = none ∧ (⟨g, off, sp⟩ : Addr).off < cs.length
        · exact ⟨by simp [Ab.share], hc.2.2, hc.2.1⟩
        · rw [if_neg hc] at hu
          obtain ⟨_, b1, b2⟩ := hM g hob off sp u hu
          exact absurd ⟨rfl, b2, b1⟩ hc
      · refine h2.keep hle (fun _ _ => rfl) (fun g' hg' off sp u hu => ?_) (by intro e; simp [Ab.share, e])
        have hne : g' ≠ g := fun e => hj (h.di j k A' A g hA' hk (e ▸ hg') hob)
        change (if _ then _ else _) = _ at hu
        rw [if_neg (fun hc => hne hc.1)] at hu
        exact hu
    · rw [hv]
      show Rep M' _ (.slice (some ⟨g, 0, none⟩) m cap)
      have h3 := rep_of_cells (M := M') (cellsOK_take (hcs.mono hle) hm) (ad := ⟨g, 0, none⟩) rfl (cap := cap) (by simp; omega) (fun j u hu => by
        rw [List.getElem?_take] at hu
        split at hu
        · exact hin j u hu
        · cases hu)
      have e : (A.xs.take m).length = m := by simp; omega
      rw [e] at h3
      exact h3

/-! ### Reading and writing an own array -/
theorem SimW.cells (h : SimW X w0 M0 n τ ac w M γ) {k : Nat} {A : Arr} (hk : τ.c k = some A) {g : Nat} (hg : (γ k).ownBlock = some g) :
    ∃ cs : List Value, CellsOK M A.sz A.xs cs ∧ (∀ j u, cs[j]? = some u → w.cell? ⟨g, j, none⟩ = some u ∧ w.frozen? ⟨g, j, none⟩ = false) := by
  obtain ⟨hus, ⟨⟨cs, hown, hcs, hM⟩, hpos, hnew⟩⟩ := h.ow k A hk
  refine ⟨cs, hcs, fun j u hu => ?_⟩
  have h1 := hown.cells hg j u hu
  rw [addr_add0] at h1
  refine ⟨h1, ?_⟩
  rcases hown.2 with ⟨hv, _⟩ | ⟨g', cap, cur, hv, _, hh, _⟩
  · rw [hv] at hg; cases hg
  · rw [hv] at hg
    have e : g' = g := Option.some.inj hg
    subst e
    exact frozen_of_row w g' j cur A.e hh

def Ab.up (τ : Ab) (k : Nat) (A : Arr) : Ab := { τ with c := fun j => if j = k then some A else τ.c j }

theorem Goes.up {τ : Ab} (γ : Nat → Value) {k : Nat} {A : Arr} {xs : List D} (hk : τ.c k = some A) (hl : xs.length = A.xs.length) : Goes τ (τ.up k ⟨A.e, A.sz, xs⟩) γ γ := by
  refine .of (fun _ _ h => h) (fun _ _ => rfl) fun j hj => ?_
  refine ⟨hj, fun A' hA' => ?_⟩
  by_cases e : j = k
  · subst e
    have h1 : A' = ⟨A.e, A.sz, xs⟩ := by simpa [Ab.up] using hA'.symm
    subst h1
    exact ⟨A, hk, rfl, by simp [hl]⟩
  · exact ⟨A', by simpa [Ab.up, e] using hA', rfl, Nat.le_refl _⟩

/-- The cells of an own array written. -/
theorem SimW.setRow (h : SimW X w0 M0 n τ ac w M γ) {k : Nat} {A : Arr} (hk : τ.c k = some A) (hsh : τ.sh k = false) {g : Nat} (hg : (γ k).ownBlock = some g)
    {w' : World} (hos : w'.os = w.os) (htp : w'.tape = w.tape) (hout : w'.output = w.output) (hsize : w'.heap.size = w.heap.size) (hoth : ∀ j, j ≠ g → w'.heap[j]? = w.heap[j]?)
    {xs : List D} (hl : xs.length = A.xs.length) {cs' : List Value} (hown' : w'.ownsRow 0 A.e A.sz (γ k) xs.length cs') (hcs : CellsOK M A.sz xs cs') :
    SimW X w0 M0 n (τ.up k ⟨A.e, A.sz, xs⟩) ac w' M γ := by
  obtain ⟨hus, ⟨⟨cs, hown, hc, hM⟩, hpos, hnew⟩⟩ := h.ow k A hk
  have hgn : ∀ off sp, M ⟨g, off, sp⟩ = none := fun off sp => by
    cases hm : M ⟨g, off, sp⟩ with
    | none => rfl
    | some u' => have := (hM g hg off sp u' hm).1; rw [hsh] at this; cases this
  refine ⟨h.dfr, h.fsz, hos.trans h.os, htp.trans h.tape, hout.trans h.output, by rw [hsize]; exact h.hsz, fun j hj hX => ?_, h.m0, fun a v hav => ?_, h.mn, fun t => (h.slots t).goes (Mem.le_refl M) (Goes.up γ hk hl), fun j A' hA' => ?_, fun j j' A1 A2 g' h1 h2 g1 g2 => ?_, fun j v hj => ?_, h.nb, ?_⟩
  rotate_right
  · obtain ⟨φ, ht⟩ := h.tr
    refine ⟨φ, ht.keep (Mem.le_refl M) (fun _ h => ⟨h, rfl⟩) (fun _ _ h => h) (fun j A' hA' _ => ?_) (Nat.le_of_eq hsize.symm) fun g' _ _ hg3 hg4 => ⟨hoth g' (fun e => hg4 k A hk (e ▸ hg)), hg3, fun j A' hA' => ?_⟩⟩
    · by_cases e : j = k
      · exact ⟨A, e ▸ hk⟩
      · exact ⟨A', by simpa [Ab.up, e] using hA'⟩
    · by_cases e : j = k
      · exact hg4 j A (e ▸ hk)
      · exact hg4 j A' (by simpa [Ab.up, e] using hA')
  · have hne : j ≠ g := by
      rintro rfl
      rcases hnew j hg with h1 | h1
      · omega
      · exact hX h1
    rw [hoth j hne]
    exact h.frame j hj hX
  · have hne : a.block ≠ g := by
      rintro e
      have := hgn a.off a.spot
      rw [← e] at this
      rw [show (⟨a.block, a.off, a.spot⟩ : Addr) = a from rfl, hav] at this
      cases this
    rw [World.cell?_of_block (hoth a.block hne)]
    exact h.mw a v hav
  · by_cases e : j = k
    · subst e
      have e1 : A' = ⟨A.e, A.sz, xs⟩ := by simpa [Ab.up] using hA'.symm
      subst e1
      refine ⟨hus, ⟨⟨cs', hown', hcs, fun g' hg' off sp v hv => ?_⟩, hpos, hnew⟩⟩
      rw [hg] at hg'
      have e := Option.some.inj hg'
      subst e
      rw [hgn off sp] at hv
      cases hv
    · have hA : τ.c j = some A' := by simpa [Ab.up, e] using hA'
      obtain ⟨h1, h2⟩ := h.ow j A' hA
      exact ⟨h1, h2.keep (Mem.le_refl M) (fun g' hg' => hoth g' (fun e' => e (h.di j k A' A g hA hk (e' ▸ hg') hg))) (fun _ _ _ _ _ hu => hu) id⟩
  · have f1 : ∃ B1, τ.c j = some B1 := by
      by_cases e : j = k
      · exact ⟨A, e ▸ hk⟩
      · exact ⟨A1, by simpa [Ab.up, e] using h1⟩
    have f2 : ∃ B2, τ.c j' = some B2 := by
      by_cases e : j' = k
      · exact ⟨A, e ▸ hk⟩
      · exact ⟨A2, by simpa [Ab.up, e] using h2⟩
    obtain ⟨B1, hB1⟩ := f1
    obtain ⟨B2, hB2⟩ := f2
    exact h.di j j' B1 B2 g' hB1 hB2 g1 g2
  · obtain ⟨p1, p2, p3, p4⟩ := h.pin j v hj
    refine ⟨p1, p2, fun A' hA' => ?_, p4⟩
    by_cases e : j = k
    · exact p3 A (e ▸ hk)
    · exact p3 A' (by simpa [Ab.up, e] using hA')

/-- A run of cells of an own array written (a cell, a whole element). -/
theorem SimW.storeRow (h : SimW X w0 M0 n τ ac w M γ) {P : Program} {k : Nat} {A : Arr} (hk : τ.c k = some A) (hsh : τ.sh k = false) {g : Nat} (hg : (γ k).ownBlock = some g)
    {o : Nat} {us : List Value} (ho : o + us.length ≤ A.xs.length * A.sz) (hu : ∀ u ∈ us, u.oneCell' = true) {xs : List D} (hl : xs.length = A.xs.length)
    (hcs : ∀ cs, CellsOK M A.sz A.xs cs → CellsOK M A.sz xs (cs.take o ++ us ++ cs.drop (o + us.length))) :
    ∃ w', (storeCells ⟨g, o, none⟩ us).run P w = .ok () w' ∧ SimW X w0 M0 n (τ.up k ⟨A.e, A.sz, xs⟩) ac w' M γ := by
  obtain ⟨hus, ⟨⟨cs, hown, hc, hM⟩, hpos, hnew⟩⟩ := h.ow k A hk
  rcases hown.2 with ⟨hv, _⟩ | ⟨g', cap, cur, hv, r1, r2, r3, r4, r5, r6⟩
  · rw [hv] at hg; cases hg
  · have e : g' = g := by rw [hv] at hg; exact Option.some.inj hg
    subst e
    have hle : A.xs.length * A.sz ≤ cap * A.sz := Nat.mul_le_mul_right _ r3
    have hst := run_storeCells_at P g' o A.e us 0 cur w r2 (by omega) hu
    simp only [Nat.add_zero] at hst
    refine ⟨_, hst, h.setRow (w' := w.setRow g' (cur.toList.take o ++ us ++ cur.toList.drop (o + us.length)).toArray) hk hsh hg rfl rfl rfl (by simp) (fun j hj => setRow_other w g' j _ hj) hl (cs' := cs.take o ++ us ++ cs.drop (o + us.length)) ⟨?_, ?_⟩ (hcs cs hc)⟩
    · rw [hl]
      have := hown.1
      simp only [List.length_append, List.length_take, List.length_drop]
      omega
    · rw [hl]
      refine .inr ⟨g', cap, _, hv, r1, setRow_heap w g' cur _ A.e _ r2, r3, r4, ?_, ?_⟩
      · simp only [List.size_toArray, List.length_append, List.length_take, List.length_drop, Array.length_toList]
        omega
      · have hcl := hown.1
        rw [← r6]
        have h1 : (cur.toList.take o).length = o := by simp; omega
        apply List.ext_getElem?
        intro i
        simp only [List.getElem?_take, List.getElem?_append, List.length_append, h1, List.getElem?_drop, List.length_take, Array.length_toList]
        have hmin : min o (min (A.xs.length * A.sz) cur.size) = o := by omega
        simp only [hmin]
        by_cases c1 : i < A.xs.length * A.sz
        · rw [if_pos c1]
          by_cases c2 : i < o + us.length
          · rw [if_pos c2, if_pos c2]
            by_cases c3 : i < o
            · simp only [if_pos c3, if_pos c1]
            · rw [if_neg c3, if_neg c3]
          · rw [if_neg c2, if_neg c2, if_pos (by omega)]
        · rw [if_neg c1]
          rw [if_neg (by omega), if_neg (by omega)]

/-! ### Append -/
def Ab.kill (τ : Ab) (k : Nat) : Ab := { τ with c := fun j => if j = k then none else τ.c j }

theorem own_prefix {w : World} {b e sz n : Nat} {v : Value} {cs : List Value} (h : w.ownsRow b e sz v n cs) {m : Nat} (hm : m ≤ n) : w.ownsRow b e sz (cutV v m) m (cs.take (m * sz)) := by
  have hle : m * sz ≤ n * sz := Nat.mul_le_mul_right _ hm
  refine ⟨by rw [List.length_take, h.1, Nat.min_eq_left hle], ?_⟩
  rcases h.2 with ⟨hv, hn⟩ | ⟨g, cap, cur, hv, r1, r2, r3, r4, r5, r6⟩
  · left; rw [hv]; exact ⟨by simp [cutV]; omega, by omega⟩
  · right
    refine ⟨g, cap, cur, by rw [hv]; rfl, r1, r2, by omega, r4, r5, ?_⟩
    rw [← r6, List.take_take, Nat.min_eq_left hle]

theorem cellsOK_append {M : Mem} {sz : Nat} {xs ys : List D} {cs ds : List Value} (h : CellsOK M sz xs cs) (k : CellsOK M sz ys ds) : CellsOK M sz (xs ++ ys) (cs ++ ds) := by
  obtain ⟨h1, h2⟩ := h
  obtain ⟨k1, k2⟩ := k
  refine ⟨by simp [h1, k1, Nat.add_mul], fun j x hx => ?_⟩
  by_cases hj : j < xs.length
  · rw [List.getElem?_append_left hj] at hx
    obtain ⟨hw, e1, e2⟩ := h2 j x hx
    refine ⟨hw, fun hc => ?_, fun fs hfs i f hi => ?_⟩
    · obtain ⟨v, a, b⟩ := e1 hc
      exact ⟨v, by rw [List.getElem?_append_left (List.getElem?_eq_some_iff.1 a).1]; exact a, b⟩
    · obtain ⟨c, v, a, b⟩ := e2 fs hfs i f hi
      exact ⟨c, v, by rw [List.getElem?_append_left (List.getElem?_eq_some_iff.1 a).1]; exact a, b⟩
  · rw [List.getElem?_append_right (by omega)] at hx
    obtain ⟨hw, e1, e2⟩ := k2 _ x hx
    have ej : j * sz = cs.length + (j - xs.length) * sz := by rw [h1, ← Nat.add_mul]; congr 1; omega
    refine ⟨hw, fun hc => ?_, fun fs hfs i f hi => ?_⟩
    · obtain ⟨v, a, b⟩ := e1 hc
      refine ⟨v, ?_, b⟩
      rw [ej, List.getElem?_append_right (by omega), Nat.add_sub_cancel_left]
      exact a
    · obtain ⟨c, v, a, b⟩ := e2 fs hfs i f hi
      refine ⟨c, v, ?_, b⟩
      rw [ej, Nat.add_assoc, List.getElem?_append_right (by omega), Nat.add_sub_cancel_left]
      exact a

theorem Goes.app {τ : Ab} (γ : Nat → Value) {k d : Nat} {A : Arr} {v : Value} (hd : τ.us d = false) : Goes τ ((τ.kill k).al d A) γ (upd γ d v) := by
  have ne : ∀ j, τ.us j = true → j ≠ d := fun j hj e => by rw [e, hd] at hj; cases hj
  refine .of (fun _ _ h => h) (fun j hj => by simp [upd, ne j hj]) fun j hj => ?_
  have hne := ne j hj
  refine ⟨by simp [Ab.al, hne, hj, Ab.kill], fun A' hA' => ?_⟩
  by_cases e : j = k
  · subst e; simp [Ab.al, hne, Ab.kill] at hA'
  · exact ⟨A', by simpa [Ab.al, hne, Ab.kill, e] using hA', rfl, Nat.le_refl _⟩

/-- An append onto an own array has happened. -/
theorem SimW.app (h : SimW X w0 M0 n τ ac w M γ) {k d : Nat} {A : Arr} (hk : τ.c k = some A) (hsh : τ.sh k = false) (hd : τ.us d = false) (hdn : d < n) (hdsh : τ.sh d = false)
    {w' : World} {v' : Value} {xs' : List D} {cs' : List Value} (hg : w.grownBy w' (γ k).ownBlock) (hown : w'.ownsRow 0 A.e A.sz v' xs'.length cs') (hcs : CellsOK M A.sz xs' cs')
    (hv' : ∀ g, v'.ownBlock = some g → (γ k).ownBlock = some g ∨ g = w.heap.size) :
    SimW X w0 M0 n ((τ.kill k).al d ⟨A.e, A.sz, xs'⟩) ac w' M (upd γ d v') := by
  obtain ⟨hus, ⟨⟨cs, hown0, hc0, hM⟩, hpos, hnew⟩⟩ := h.ow k A hk
  have hMg : ∀ g, (γ k).ownBlock = some g → ∀ off sp, M ⟨g, off, sp⟩ = none := fun g hgk off sp => by
    cases hm : M ⟨g, off, sp⟩ with
    | none => rfl
    | some u' => have := (hM g hgk off sp u' hm).1; rw [hsh] at this; cases this
  have hcell : ∀ a u, M a = some u → w'.cell? a = some u := fun a u hu => by
    have h1 := h.mw a u hu
    refine hg.cell h1 (fun e => ?_)
    have := hMg a.block e.symm a.off a.spot
    rw [show (⟨a.block, a.off, a.spot⟩ : Addr) = a from rfl, hu] at this
    cases this
  have hblk : ∀ j A', τ.c j = some A' → j ≠ k → ∀ g, (γ j).ownBlock = some g → w'.heap[g]? = w.heap[g]? := fun j A' hA' hj g hgj =>
    hg.block g ((h.ow j A' hA').2.lt g hgj) (fun e => hj (h.di j k A' A g hA' hk hgj e.symm))
  refine ⟨h.dfr, h.fsz, hg.os.trans h.os, hg.tape.trans h.tape, hg.output.trans h.output, Nat.le_trans h.hsz hg.size, fun j hj hX => ?_, h.m0, hcell, h.mn,
    fun t => (h.slots t).goes (Mem.le_refl M) (Goes.app γ hd), fun j A' hA' => ?_, fun j j' A1 A2 g h1 h2 g1 g2 => ?_, fun j v hj => ?_, h.nb, ?_⟩
  rotate_right
  · obtain ⟨φ, ht⟩ := h.tr
    have hne : ∀ j, τ.us j = true → j ≠ d := fun j hj e => by rw [e, hd] at hj; cases hj
    refine ⟨φ, ht.keep (Mem.le_refl M) (fun j hj => ⟨by simp [Ab.al, Ab.kill, hj], by simp [upd, hne j hj]⟩) (fun _ _ h => h) (fun j A' hA' hj => ?_) hg.size fun g hg1 hg2 hg3 hg4 =>
      ⟨hg.block g hg1 (fun e => hg4 k A hk e.symm), hg3, fun j A' hA' => ?_⟩⟩
    · have hjk : j ≠ k := fun e' => by subst e'; simp [Ab.al, hne j hj, Ab.kill] at hA'
      exact ⟨A', by simpa [Ab.al, hne j hj, Ab.kill, hjk] using hA'⟩
    · by_cases e : j = d
      · subst e
        simp only [upd, if_true]
        intro e2
        rcases hv' g e2 with h1 | h1
        · exact hg4 k A hk h1
        · omega
      · rw [show upd γ d v' j = γ j by simp [upd, e]]
        have hjk : j ≠ k := fun e' => by subst e'; simp [Ab.al, e, Ab.kill] at hA'
        exact hg4 j A' (by simpa [Ab.al, e, Ab.kill, hjk] using hA')
  · rw [hg.block j (Nat.lt_of_lt_of_le hj h.hsz) (fun e => ?_)]
    · exact h.frame j hj hX
    · rcases hnew j e.symm with h1 | h1
      · omega
      · exact hX h1
  · by_cases e : j = d
    · subst e
      have e1 : A' = ⟨A.e, A.sz, xs'⟩ := by simpa [Ab.al] using hA'.symm
      subst e1
      refine ⟨by simp [Ab.al], ⟨⟨cs', by simpa [upd] using hown, hcs, fun g hgk off sp u hu => ?_⟩, hpos, fun g hgk => ?_⟩⟩
      · simp only [upd, if_true] at hgk
        rcases hv' g hgk with h1 | h1
        · rw [hMg g h1 off sp] at hu; cases hu
        · subst h1
          rw [no_mem_new h (Nat.le_refl _) off sp] at hu; cases hu
      · simp only [upd, if_true] at hgk
        rcases hv' g hgk with h1 | h1
        · exact hnew g h1
        · exact .inl (h1 ▸ h.hsz)
    · have hjk : j ≠ k := fun e' => by subst e'; simp [Ab.al, e, Ab.kill] at hA'
      have hA : τ.c j = some A' := by simpa [Ab.al, e, Ab.kill, hjk] using hA'
      obtain ⟨h1, h2⟩ := h.ow j A' hA
      refine ⟨by simp [Ab.al, e, Ab.kill, h1], ?_⟩
      have e3 : upd γ d v' j = γ j := by simp [upd, e]
      rw [e3]
      exact h2.keep (Mem.le_refl M) (hblk j A' hA hjk) (fun _ _ _ _ _ hu => hu) id
  · have live : ∀ j A', ((τ.kill k).al d ⟨A.e, A.sz, xs'⟩).c j = some A' → j ≠ d → j ≠ k ∧ τ.c j = some A' := fun j A' hA' e => by
      have hjk : j ≠ k := fun e' => by subst e'; simp [Ab.al, e, Ab.kill] at hA'
      exact ⟨hjk, by simpa [Ab.al, e, Ab.kill, hjk] using hA'⟩
    have cross : ∀ j A' g, τ.c j = some A' → j ≠ k → (γ j).ownBlock = some g → v'.ownBlock = some g → False := fun j A' g hA' hj hgj hgv => by
      rcases hv' g hgv with h3 | h3
      · exact hj (h.di j k A' A g hA' hk hgj h3)
      · have := (h.ow j A' hA').2.lt g hgj; omega
    by_cases e1 : j = d
    · by_cases e2 : j' = d
      · rw [e1, e2]
      · exfalso
        obtain ⟨n2, c2⟩ := live j' A2 h2 e2
        subst e1
        simp only [upd, if_true] at g1
        simp only [upd, e2, if_false] at g2
        exact cross j' A2 g c2 n2 g2 g1
    · obtain ⟨n1, c1⟩ := live j A1 h1 e1
      by_cases e2 : j' = d
      · exfalso
        subst e2
        simp only [upd, if_true] at g2
        simp only [upd, e1, if_false] at g1
        exact cross j A1 g c1 n1 g1 g2
      · obtain ⟨n2, c2⟩ := live j' A2 h2 e2
        simp only [upd, e1, e2, if_false] at g1 g2
        exact h.di j j' A1 A2 g c1 c2 g1 g2
  · obtain ⟨p1, p2, p3, p4⟩ := h.pin j v hj
    have hne : j ≠ d := by omega
    have e3 : upd γ d v' j = γ j := by simp [upd, hne]
    refine ⟨p1, p2, fun A' hA' => ?_, fun B hB => by rw [e3]; exact p4 B hB⟩
    rw [e3]
    have hjk : j ≠ k := fun e' => by subst e'; simp [Ab.al, hne, Ab.kill] at hA'
    exact p3 A' (by simpa [Ab.al, hne, Ab.kill, hjk] using hA')

/-! ### A call -/
theorem SimW.call (h : SimW X w0 M0 n τ ac w M γ) {w' : World} {M' : Mem} (hb : Below w.heap.size w w') (hle : Mem.le M M') (hmw : ∀ a v, M' a = some v → w'.cell? a = some v)
    (hmn : ∀ a v, M' a = some v → M a = some v ∨ w.heap.size ≤ a.block) : SimW X w0 M0 n τ ac w' M' γ := by
  refine ⟨h.dfr, h.fsz, hb.os.trans h.os, hb.tape.trans h.tape, hb.output.trans h.output, Nat.le_trans h.hsz hb.size,
    fun j hj hX => (hb.block j (Nat.lt_of_lt_of_le hj h.hsz)).trans (h.frame j hj hX), Mem.le_trans h.m0 hle, hmw, fun a v hav => ?_,
    fun t => (h.slots t).goes hle (Goes.refl τ γ), fun j A' hA' => ?_, h.di, h.pin, h.nb, ?_⟩
  rotate_right
  · obtain ⟨φ, ht⟩ := h.tr
    refine ⟨φ, ht.keep hle (fun _ h => ⟨h, rfl⟩) (fun _ _ h => h) (fun j A' hA' _ => ⟨A', hA'⟩) hb.size fun g hg hg2 hg3 hg4 => ⟨hb.block g hg, fun off sp => ?_, hg4⟩⟩
    cases hm : M' ⟨g, off, sp⟩ with
    | none => rfl
    | some u =>
      rcases hmn _ u hm with h1 | h1
      · rw [hg3] at h1; cases h1
      · simp only at h1; omega
  · rcases hmn a v hav with h1 | h1
    · exact h.mn a v h1
    · exact .inr (.inl (Nat.le_trans h.hsz h1))
  · obtain ⟨h1, h2⟩ := h.ow j A' hA'
    refine ⟨h1, h2.keep hle (fun g hg => hb.block g (h2.lt g hg)) (fun g hg off sp u hu => ?_) id⟩
    rcases hmn _ u hu with h3 | h3
    · exact h3
    · have := h2.lt g hg
      simp only at h3
      omega
end
end Go.DL

namespace Go.DL
open Go.RowKit

inductive F where
  | int | bool | str | sl
def F.zeroV : F → Value
  | .int => .int .i64 0 | .bool => .bool false | .str => .string ⟨#[]⟩ | .sl => .slice none 0 0
def F.zeroD : F → D
  | .int => .sc (.int .i64 0) | .bool => .sc (.bool false) | .str => .sc (.string ⟨#[]⟩) | .sl => .sl []

inductive Ty where
  | int | u8 | bool | str
  | sl (e : TypeId)
  | st (fs : List F)
def Ty.width : Ty → Nat
  | .st fs => fs.length
  | _ => 1
def Ty.zeroV : Ty → Value
  | .int => .int .i64 0 | .u8 => .int .u8 0 | .bool => .bool false | .str => .string ⟨#[]⟩ | .sl _ => .slice none 0 0
  | .st fs => .agg (fs.map F.zeroV).toArray
def Ty.zeroD : Ty → D
  | .int => .sc (.int .i64 0) | .u8 => .sc (.int .u8 0) | .bool => .sc (.bool false) | .str => .sc (.string ⟨#[]⟩) | .sl _ => .sl []
  | .st fs => .agg (fs.map F.zeroD)

def FieldOK (P : Program) (f : F) (fd : Field) (j : Nat) : Prop :=
  fd.offset = j ∧ fd.name ≠ "_" ∧ (∃ i, P.info? fd.type = some i ∧ i.size = 1) ∧
  (match f with
   | .int => P.underlying fd.type = some (.int .i64)
   | .bool => P.underlying fd.type = some .bool
   | .str => P.underlying fd.type = some .string
   | .sl => ∃ e, P.underlying fd.type = some (.slice e))

def StructOK (P : Program) (t : TypeId) (fs : List F) : Prop :=
  ∃ fds : Array Field, P.underlying t = some (.struct fds) ∧ fds.size = fs.length ∧ (∀ (j : Nat) (f : F), fs[j]? = some f → ∃ fd, fds[j]? = some fd ∧ FieldOK P f fd j) ∧
    P.stoodInHeld t = false ∧ P.eqGuardType P.depth t = false

structure TyOK (P : Program) (t : TypeId) (ty : Ty) : Prop where
  und : match ty with
    | .int => P.underlying t = some (.int .i64)
    | .u8 => P.underlying t = some (.int .u8)
    | .bool => P.underlying t = some .bool
    | .str => P.underlying t = some .string
    | .sl e => P.underlying t = some (.slice e)
    | .st fs => StructOK P t fs
  info : ∃ i, P.info? t = some i ∧ i.size = ty.width ∧ i.zero = some ty.zeroV ∧ i.bytes ≤ 4096

abbrev Tys := List (TypeId × Ty)
def TOK (P : Program) (T : Tys) : Prop := ∀ p, p ∈ T → TyOK P p.1 p.2

theorem und_some {P : Program} {t : TypeId} {ty : Ty} (h : TyOK P t ty) : ∃ d, P.underlying t = some d ∧ (match d with | .struct _ | .array _ _ => True | _ => False) = (match ty with | .st _ => True | _ => False) := by
  have := h.und
  cases ty <;> simp only at this
  case st fs => obtain ⟨fds, hf, _⟩ := this; exact ⟨_, hf, rfl⟩
  all_goals exact ⟨_, this, rfl⟩

def Ty.isSt : Ty → Bool
  | .st _ => true
  | _ => false
theorem run_isAgg {P : Program} {t : TypeId} {ty : Ty} (h : TyOK P t ty) (w : World) : (isAgg t).run P w = .ok ty.isSt w := by
  have := h.und
  cases ty <;> simp only at this
  case st fs => obtain ⟨fds, hf, _⟩ := this; simp [isAgg, run_underlying hf, Ty.isSt]
  all_goals simp [isAgg, run_underlying this, Ty.isSt]

theorem run_sizeOf {P : Program} {t : TypeId} {ty : Ty} (h : TyOK P t ty) (w : World) : (sizeOf t).run P w = .ok ty.width w := by
  obtain ⟨i, hi, hs, _⟩ := h.info
  simp [sizeOf, typeInfo, hi, hs]

theorem run_zero {P : Program} {t : TypeId} {ty : Ty} (h : TyOK P t ty) (w : World) : (zeroValue t).run P w = .ok ty.zeroV w := by
  obtain ⟨i, hi, _, hz, _⟩ := h.info
  simp [zeroValue, typeInfo, hi, hz]

theorem F.zero_rep (M : Mem) (f : F) : Rep M f.zeroD f.zeroV ∧ f.zeroD.isCell = true := by
  cases f <;> exact ⟨by first | exact .sc _ rfl | exact .nil _ _, rfl⟩

theorem Ty.zero_rep (M : Mem) (ty : Ty) : Rep M ty.zeroD ty.zeroV := by
  cases ty with
  | st fs =>
    refine .agg _ _ (by simp) (fun f hf => ?_) (fun j f hj => ?_)
    · obtain ⟨g, _, rfl⟩ := List.mem_map.1 hf
      exact (F.zero_rep M g).2
    · rw [List.getElem?_map] at hj
      cases hg : fs[j]? with
      | none => simp [hg] at hj
      | some g =>
        simp [hg] at hj
        subst hj
        simp [hg]
        exact (F.zero_rep M g).1
  | sl e => exact .nil _ _
  | int => exact .sc _ rfl
  | u8 => exact .sc _ rfl
  | bool => exact .sc _ rfl
  | str => exact .sc _ rfl

theorem Ty.zero_width (ty : Ty) : ty.zeroD.width = ty.width := by
  cases ty <;> simp [Ty.zeroD, Ty.width, D.width]

/-- The cells of a value that reads as x. -/
theorem Rep.cells_one {M : Mem} {x : D} {v : Value} (h : Rep M x v) : v.cells.size = x.width ∧ (∀ u ∈ v.cells.toList, u.oneCell' = true) ∧ ElemAt M x v.cells.toList 0 := by
  cases h with
  | sc u hu =>
    have e : v.cells = #[v] := by cases v <;> first | rfl | cases hu
    rw [e]
    exact ⟨rfl, by simpa using hu, fun _ => ⟨v, rfl, .sc v hu⟩, fun fs hfs => by cases hfs⟩
  | agg fs cs hl hc h =>
    refine ⟨hl, fun u hu => ?_, fun hx => (by cases hx), fun fs' hfs i f hi => ?_⟩
    · obtain ⟨j, hj⟩ := List.getElem?_of_mem hu
      have hjl : j < cs.size := by have := (List.getElem?_eq_some_iff.1 hj).1; simpa [Value.cells] using this
      have hf : fs[j]? = some (fs[j]'(by omega)) := List.getElem?_eq_getElem (by omega)
      have h1 := (h j _ hf).oneCell (hc _ (List.getElem_mem _))
      have e : cs.getD j undef = u := by
        have : cs[j]? = some u := by simpa [Value.cells] using hj
        simp [this]
      rwa [e] at h1
    · cases hfs
      have hil := (List.getElem?_eq_some_iff.1 hi).1
      refine ⟨hc f (List.mem_of_getElem? hi), cs.getD i undef, ?_, h i f hi⟩
      have : cs[i]? = some (cs[i]'(by omega)) := Array.getElem?_eq_getElem (by omega)
      simp [Value.cells, this]
  | nil a cap => exact ⟨rfl, by simp [Value.cells, Value.oneCell'], fun _ => ⟨_, rfl, .nil a cap⟩, fun fs hfs => by cases hfs⟩
  | sl xs ad cap sz c hcap hsp hw hm hs hc ha =>
    exact ⟨rfl, by simp [Value.cells, Value.oneCell'], fun _ => ⟨_, rfl, .sl xs ad cap sz c hcap hsp hw hm hs hc ha⟩, fun fs hfs => by cases hfs⟩

theorem cellsOK_one {M : Mem} {x : D} {v : Value} (h : Rep M x v) : CellsOK M x.width [x] v.cells.toList := by
  obtain ⟨h1, _, h3⟩ := h.cells_one
  refine ⟨by simp [h1], fun j y hy => ?_⟩
  cases j with
  | zero => simp at hy; subst hy; exact ⟨rfl, by simpa using h3⟩
  | succ j => simp at hy

/-- What an operand reads as, when it is handed on as data: a view of an own array is shared. -/
inductive ToD (τ : Ab) : S → D → List Nat → Prop
  | d (x : D) : ToD τ (.d x) x []
  | nil : ToD τ .nil (.sl []) []
  | av (k m : Nat) (A : Arr) (h : τ.c k = some A) : ToD τ (.av k m) (.sl (A.xs.take m)) [k]

def Ab.shares (τ : Ab) (ks : List Nat) : Ab := ks.foldl Ab.share τ

section
variable {X : Env} {w0 : World} {M0 : Mem} {n : Nat} {τ : Ab} {ac : Act} {w : World} {M : Mem} {γ : Nat → Value}

theorem shares_c (τ : Ab) (ks : List Nat) : (τ.shares ks).c = τ.c ∧ (τ.shares ks).us = τ.us ∧ (τ.shares ks).s = τ.s := by
  unfold Ab.shares
  induction ks generalizing τ with
  | nil => exact ⟨rfl, rfl, rfl⟩
  | cons k ks ih => exact ih (τ.share k)

theorem Goes.shares (τ : Ab) (γ : Nat → Value) (ks : List Nat) : Goes τ (τ.shares ks) γ γ := by
  obtain ⟨h1, h2, h3⟩ := shares_c τ ks
  refine .of (fun k B h => ?_) (fun _ _ => rfl) fun k hk => ⟨by rw [h2]; exact hk, fun A hA => ⟨A, by rw [h1] at hA; exact hA, rfl, Nat.le_refl _⟩⟩
  simpa only [Ab.f, h3] using h

theorem SimW.toD (h : SimW X w0 M0 n τ ac w M γ) {s : S} {x : D} {ks : List Nat} (hd : ToD τ s x ks) {v : Value} (hv : RepS M τ γ s v) :
    ∃ M', SimW X w0 M0 n (τ.shares ks) ac w M' γ ∧ Mem.le M M' ∧ Rep M' x v := by
  cases hd with
  | d => exact ⟨M, h, Mem.le_refl M, hv⟩
  | nil => exact ⟨M, h, Mem.le_refl M, by rw [show v = .slice none 0 0 from hv]; exact .nil _ _⟩
  | av k m A hA =>
    obtain ⟨hm, e⟩ := hv.2 A hA
    obtain ⟨M', h1, h2, h3⟩ := h.share hA hm
    exact ⟨M', h1, h2, by rw [e]; exact h3⟩

/-- Several operands at once. -/
inductive ToDs (τ : Ab) : List S → List D → List Nat → Prop
  | nil : ToDs τ [] [] []
  | cons {s : S} {x : D} {k : List Nat} {ss : List S} {xs : List D} {ks : List Nat} (h : ToD τ s x k) (t : ToDs τ ss xs ks) : ToDs τ (s :: ss) (x :: xs) (k ++ ks)

theorem ToD.of_c {τ τ' : Ab} (hc : τ'.c = τ.c) {s : S} {x : D} {ks : List Nat} (h : ToD τ s x ks) : ToD τ' s x ks := by
  cases h with
  | d => exact .d x
  | nil => exact .nil
  | av k m A hA => exact .av k m A (by rw [hc]; exact hA)
theorem ToDs.of_c {τ τ' : Ab} (hc : τ'.c = τ.c) {ss : List S} {xs : List D} {ks : List Nat} (h : ToDs τ ss xs ks) : ToDs τ' ss xs ks := by
  induction h with
  | nil => exact .nil
  | cons h t ih => exact .cons (h.of_c hc) ih

theorem shares_append (τ : Ab) (a b : List Nat) : τ.shares (a ++ b) = (τ.shares a).shares b := by simp [Ab.shares]

theorem SimW.toDs {τ0 : Ab} {ss : List S} {xs : List D} {ks : List Nat} (hd : ToDs τ0 ss xs ks) : ∀ {τ : Ab} {M : Mem} {vs : Nat → Value}, τ.c = τ0.c → SimW X w0 M0 n τ ac w M γ →
    (∀ (j : Nat) (s : S), ss[j]? = some s → RepS M τ γ s (vs j)) →
    ∃ M', SimW X w0 M0 n (τ.shares ks) ac w M' γ ∧ Mem.le M M' ∧ xs.length = ss.length ∧ ∀ (j : Nat) (x : D), xs[j]? = some x → Rep M' x (vs j) := by
  induction hd with
  | nil => exact fun hc h hv => ⟨_, h, Mem.le_refl _, rfl, fun j x hx => by simp at hx⟩
  | @cons s x k ss xs ks h0 t ih =>
    intro τ M vs hc h hv
    obtain ⟨M1, h1, l1, r1⟩ := h.toD (h0.of_c hc) (hv 0 s rfl)
    obtain ⟨e1, e2, e3⟩ := shares_c τ k
    obtain ⟨M2, h2, l2, hl, r2⟩ := ih (vs := fun j => vs (j + 1)) (by rw [e1, hc]) h1 (fun j s' hs => (hv (j + 1) s' (by simpa using hs)).goes l1 (Goes.shares τ γ k))
    refine ⟨M2, by rw [shares_append]; exact h2, Mem.le_trans l1 l2, by simp [hl], fun j y hy => ?_⟩
    cases j with
    | zero => simp at hy; subst hy; exact r1.mono l2
    | succ j => exact r2 j y (by simpa using hy)
end
end Go.DL

namespace Go.DL
open Go.RowKit

def BinOK (P : Program) (op : BinOp) (t : TypeId) (u v r : Value) : Prop :=
  r.oneCell' = true ∧ ∀ (x y : Operand) (w : World), (do eqGuard op t x y u v; binOp op t u v : Sem Value).run P w = .ok r w

def UnOK (op : UnOp) (u r : Value) : Prop := r.oneCell' = true ∧ ∀ (P : Program) (w : World), (Op.unary op u).run P w = .ok r w

/-- Equality of two structs, field by field. -/
inductive EqFs : List F → List D → List D → Bool → Prop
  | nil : EqFs [] [] [] true
  | int (a b : Int) {r : Bool} {Fs : List F} {fs gs : List D} (h : EqFs Fs fs gs r) : EqFs (.int :: Fs) (.sc (.int .i64 a) :: fs) (.sc (.int .i64 b) :: gs) ((a == b) && r)
  | bool (a b : Bool) {r : Bool} {Fs : List F} {fs gs : List D} (h : EqFs Fs fs gs r) : EqFs (.bool :: Fs) (.sc (.bool a) :: fs) (.sc (.bool b) :: gs) ((a == b) && r)
  | str (a b : ByteArray) {r : Bool} {Fs : List F} {fs gs : List D} (h : EqFs Fs fs gs r) : EqFs (.str :: Fs) (.sc (.string a) :: fs) (.sc (.string b) :: gs) ((a.toList == b.toList) && r)

def T1.toS : T1 → S
  | .d x => .d x
  | .av k m => .av k m
  | .fv k m => .fv k m

/-- What is held of a cell that may be a slice of an array. -/
inductive RefS : D → S → Prop
  | d (y : D) (h : y.isRef = false) : RefS y (.d y)
  | av (k m : Nat) : RefS (.ref k m) (.av k m)
  | fv (k m : Nat) : RefS (.ref k m) (.fv k m)

/-- The value of a bound of a slice expression. -/
def boundOf (ν : Operand → S) (o : Option Operand) (dflt : Nat) (r : Nat) : Prop :=
  match o with
  | none => r = dflt
  | some x => ∃ k, ν x = .d (.sc (.int k (r : Int)))

/-- Operations on slots alone. -/
inductive PEff (P : Program) (T : Tys) : Op → (Operand → S) → S → Prop
  | move {ν} (x : Operand) : PEff P T (.move x) ν (ν x)
  | assign {ν} (x : Operand) : PEff P T (.assign x) ν (ν x)
  | pick {ν} (c a b : Operand) (t : Bool) (h : ν c = .d (.sc (.bool t))) : PEff P T (.pick c a b) ν (if t then ν a else ν b)
  | bin {ν} (op : BinOp) (t : TypeId) (x y : Operand) (yt : TypeId) (u v r : Value) (hx : ν x = .d (.sc u)) (hy : ν y = .d (.sc v)) (h : BinOK P op t u v r) :
      PEff P T (.binOp op t x y yt) ν (.d (.sc r))
  | eqA {ν} (t : TypeId) (x y : Operand) (yt : TypeId) (Fs : List F) (fs gs : List D) (b : Bool) (hT : (t, .st Fs) ∈ T) (hx : ν x = .d (.agg fs)) (hy : ν y = .d (.agg gs)) (he : EqFs Fs fs gs b) :
      PEff P T (.binOp .eql t x y yt) ν (.d (.sc (.bool b)))
  | neA {ν} (t : TypeId) (x y : Operand) (yt : TypeId) (Fs : List F) (fs gs : List D) (b : Bool) (hT : (t, .st Fs) ∈ T) (hx : ν x = .d (.agg fs)) (hy : ν y = .d (.agg gs)) (he : EqFs Fs fs gs b) :
      PEff P T (.binOp .neq t x y yt) ν (.d (.sc (.bool (!b))))
  | un {ν} (op : UnOp) (t : TypeId) (x : Operand) (u r : Value) (hx : ν x = .d (.sc u)) (h : UnOK op u r) : PEff P T (.unOp op t x) ν (.d (.sc r))
  | field {ν} (t : TypeId) (x : Operand) (f : Nat) (Fs : List F) (fs : List D) (y : D) (hT : (t, .st Fs) ∈ T) (hl : Fs.length = fs.length) (hx : ν x = .d (.agg fs)) (hf : fs[f]? = some y) :
      PEff P T (.field t x f) ν (.d y)
  | fieldE {ν} (t : TypeId) (x : Operand) (f : Nat) (Fs : List F) (fs : List D) (y : D) (hT : (t, .st Fs) ∈ T) (hl : Fs.length = fs.length) (hx : ν x = .el (.agg fs)) (hf : fs[f]? = some y) :
      PEff P T (.fieldAddr t x f) ν (.el y)
  | indexD {ν} (t : TypeId) (x ix : Operand) (e : TypeId) (ety : Ty) (xs : List D) (kd : IntKind) (j : Int) (y : D) (hT : (t, .sl e) ∈ T) (hE : (e, ety) ∈ T) (hx : ν x = .d (.sl xs))
      (hi : ν ix = .d (.sc (.int kd j))) (h0 : 0 ≤ j) (hy : xs[j.toNat]? = some y) (hw : y.width = ety.width) : PEff P T (.indexAddr t x ix) ν (.el y)
  | indexS {ν} (t : TypeId) (x ix : Operand) (s : ByteArray) (kd : IntKind) (j : Int) (b : UInt8) (hT : (t, .str) ∈ T) (hx : ν x = .d (.sc (.string s)))
      (hi : ν ix = .d (.sc (.int kd j))) (h0 : 0 ≤ j) (hb : s[j.toNat]? = some b) : PEff P T (.index t x ix) ν (.d (.sc (.int .u8 b.toNat)))
  | sliceD {ν} (t : TypeId) (x : Operand) (lo hi : Option Operand) (e : TypeId) (ety : Ty) (xs : List D) (l h : Nat) (hT : (t, .sl e) ∈ T) (hE : (e, ety) ∈ T) (hx : ν x = .d (.sl xs))
      (hlo : boundOf ν lo 0 l) (hhi : boundOf ν hi xs.length h) (hlh : l ≤ h) (hh : h ≤ xs.length) (hw : ∀ y ∈ xs, y.width = ety.width) :
      PEff P T (.slice t x lo hi none) ν (.d (.sl ((xs.take h).drop l)))
  | extract {ν} (x : Operand) (i : Nat) (xs : List T1) (r : T1) (hx : ν x = .tup xs) (hi : xs[i]? = some r) : PEff P T (.extract x i) ν r.toS
  | lenD {ν} (t : TypeId) (x : Operand) (e : TypeId) (xs : List D) (hT : (t, .sl e) ∈ T) (hx : ν x = .d (.sl xs)) : PEff P T (.call { callee := .builtin .len, args := #[x], argTypes := #[t] }) ν (.d (.sc (.int .i64 xs.length)))
  | lenN {ν} (t : TypeId) (x : Operand) (e : TypeId) (hT : (t, .sl e) ∈ T) (hx : ν x = .nil) : PEff P T (.call { callee := .builtin .len, args := #[x], argTypes := #[t] }) ν (.d (.sc (.int .i64 0)))
  | fieldF {ν} (t : TypeId) (x : Operand) (f : Nat) (Fs : List F) (k i : Nat) (hT : (t, .st Fs) ∈ T) (hl : f < Fs.length) (hx : ν x = .fe k i) : PEff P T (.fieldAddr t x f) ν (.ff k i f)
  | fieldR {ν} (t : TypeId) (x : Operand) (f : Nat) (Fs : List F) (fs : List D) (y : D) (s : S) (hT : (t, .st Fs) ∈ T) (hl : Fs.length = fs.length) (hx : ν x = .dr fs) (hf : fs[f]? = some y) (hs : RefS y s) :
      PEff P T (.field t x f) ν s
  | lenF {ν} (t : TypeId) (x : Operand) (e : TypeId) (k m : Nat) (hT : (t, .sl e) ∈ T) (hx : ν x = .fv k m) : PEff P T (.call { callee := .builtin .len, args := #[x], argTypes := #[t] }) ν (.d (.sc (.int .i64 m)))
  | lenS {ν} (t : TypeId) (x : Operand) (s : ByteArray) (hT : (t, .str) ∈ T) (hx : ν x = .d (.sc (.string s))) : PEff P T (.call { callee := .builtin .len, args := #[x], argTypes := #[t] }) ν (.d (.sc (.int .i64 s.size)))
  | min {ν} (x y : Operand) (t : Array TypeId) (a b : Int) (hx : ν x = .d (.sc (.int .i64 a))) (hy : ν y = .d (.sc (.int .i64 b))) :
      PEff P T (.call { callee := .builtin .min, args := #[x, y], argTypes := t }) ν (.d (.sc (.int .i64 (if b < a then b else a))))
  | max {ν} (x y : Operand) (t : Array TypeId) (a b : Int) (hx : ν x = .d (.sc (.int .i64 a))) (hy : ν y = .d (.sc (.int .i64 b))) :
      PEff P T (.call { callee := .builtin .max, args := #[x, y], argTypes := t }) ν (.d (.sc (.int .i64 (if b > a then b else a))))
  | mkfn {ν} (f : FuncId) : PEff P T (.makeFunc (.func f) #[] #[]) ν (.fn f)
  | conv {ν} (src dst : TypeId) (x : Operand) (k k' : IntKind) (m : Int) (sty : Ty) (hs : (src, sty) ∈ T) (hd : P.underlying dst = some (.int k')) (hx : ν x = .d (.sc (.int k m))) :
      PEff P T (.convert src dst x) ν (.d (.sc (.int k' (k'.wrap m))))

theorem addr_add_add (a : Addr) (i j : Nat) : (a.add i).add j = a.add (i + j) := by
  unfold Addr.add
  by_cases hi : i = 0 <;> by_cases hj : j = 0 <;> simp [hi, hj, Nat.add_assoc]
theorem addr_add_spot (a : Addr) (i : Nat) (h : a.spot = none) : (a.add i).spot = none := by
  unfold Addr.add
  split <;> simp_all

theorem eqFields_run {P : Program} (d : Nat) : ∀ {Fs : List F} {fs gs : List D} {b : Bool}, EqFs Fs fs gs b → ∀ (M : Mem) (fds : List Field) (o : Nat) (xs ys : Array Value) (w : World),
    fds.length = Fs.length → (∀ (j : Nat) (f : F), Fs[j]? = some f → ∃ fd, fds[j]? = some fd ∧ FieldOK P f fd (o + j)) →
    (∀ (j : Nat) (f : D), fs[j]? = some f → ∃ v, xs[o + j]? = some v ∧ Rep M f v) → (∀ (j : Nat) (f : D), gs[j]? = some f → ∃ v, ys[o + j]? = some v ∧ Rep M f v) →
    (Op.eqFields (d + 1) xs ys fds).run P w = .ok b w
  | _, _, _, _, .nil, M, fds, o, xs, ys, w, hl, _, _, _ => by
    have : fds = [] := List.eq_nil_of_length_eq_zero hl
    subst this; rfl
  | _, _, _, _, .int (Fs := Fs) a b h, M, fds, o, xs, ys, w, hl, hfd, hx, hy => by
    match fds, hl with
    | fd :: fds, hl =>
      obtain ⟨fd', h1, hoff, hnm, ⟨i, hi, hs⟩, hu⟩ := hfd 0 _ rfl
      simp at h1; subst h1
      obtain ⟨v1, hv1, r1⟩ := hx 0 _ rfl
      obtain ⟨v2, hv2, r2⟩ := hy 0 _ rfl
      cases r1; cases r2
      simp only [Nat.add_zero] at hv1 hv2 hoff
      have ih := eqFields_run d h M fds (o + 1) xs ys w (by simpa using hl) (fun j f hj => by have := hfd (j + 1) f (by simpa using hj); simpa [Nat.add_assoc, Nat.add_comm 1 j] using this)
        (fun j f hj => by have := hx (j + 1) f (by simpa using hj); simpa [Nat.add_assoc, Nat.add_comm 1 j] using this) (fun j f hj => by have := hy (j + 1) f (by simpa using hj); simpa [Nat.add_assoc, Nat.add_comm 1 j] using this)
      simp only [Op.eqFields, hnm, ne_eq, not_false_eq_true, if_true, part, isAgg, run_underlying hu, Sem.run_bind, Result.andThen_ok, Sem.run_pure, Bool.false_eq_true, if_false, hoff, hv1, hv2, run_equalIn_int w d fd.type .i64 .i64 a b hu, Sem.run_ite, ih]
      cases (a == b) <;> simp
  | _, _, _, _, .bool (Fs := Fs) a b h, M, fds, o, xs, ys, w, hl, hfd, hx, hy => by
    match fds, hl with
    | fd :: fds, hl =>
      obtain ⟨fd', h1, hoff, hnm, ⟨i, hi, hs⟩, hu⟩ := hfd 0 _ rfl
      simp at h1; subst h1
      obtain ⟨v1, hv1, r1⟩ := hx 0 _ rfl
      obtain ⟨v2, hv2, r2⟩ := hy 0 _ rfl
      cases r1; cases r2
      simp only [Nat.add_zero] at hv1 hv2 hoff
      have ih := eqFields_run d h M fds (o + 1) xs ys w (by simpa using hl) (fun j f hj => by have := hfd (j + 1) f (by simpa using hj); simpa [Nat.add_assoc, Nat.add_comm 1 j] using this)
        (fun j f hj => by have := hx (j + 1) f (by simpa using hj); simpa [Nat.add_assoc, Nat.add_comm 1 j] using this) (fun j f hj => by have := hy (j + 1) f (by simpa using hj); simpa [Nat.add_assoc, Nat.add_comm 1 j] using this)
      simp only [Op.eqFields, hnm, ne_eq, not_false_eq_true, if_true, part, isAgg, run_underlying hu, Sem.run_bind, Result.andThen_ok, Sem.run_pure, Bool.false_eq_true, if_false, hoff, hv1, hv2, run_equalIn_bool' w d fd.type a b hu, Sem.run_ite, ih]
      cases (a == b) <;> simp
  | _, _, _, _, .str (Fs := Fs) a b h, M, fds, o, xs, ys, w, hl, hfd, hx, hy => by
    match fds, hl with
    | fd :: fds, hl =>
      obtain ⟨fd', h1, hoff, hnm, ⟨i, hi, hs⟩, hu⟩ := hfd 0 _ rfl
      simp at h1; subst h1
      obtain ⟨v1, hv1, r1⟩ := hx 0 _ rfl
      obtain ⟨v2, hv2, r2⟩ := hy 0 _ rfl
      cases r1; cases r2
      simp only [Nat.add_zero] at hv1 hv2 hoff
      have ih := eqFields_run d h M fds (o + 1) xs ys w (by simpa using hl) (fun j f hj => by have := hfd (j + 1) f (by simpa using hj); simpa [Nat.add_assoc, Nat.add_comm 1 j] using this)
        (fun j f hj => by have := hx (j + 1) f (by simpa using hj); simpa [Nat.add_assoc, Nat.add_comm 1 j] using this) (fun j f hj => by have := hy (j + 1) f (by simpa using hj); simpa [Nat.add_assoc, Nat.add_comm 1 j] using this)
      simp only [Op.eqFields, hnm, ne_eq, not_false_eq_true, if_true, part, isAgg, run_underlying hu, Sem.run_bind, Result.andThen_ok, Sem.run_pure, Bool.false_eq_true, if_false, hoff, hv1, hv2, run_equalIn_string w d fd.type a b hu, Sem.run_ite, ih]
      cases (a.toList == b.toList) <;> simp

theorem eqA_run {P : Program} {t : TypeId} {Fs : List F} (hT : TyOK P t (.st Fs)) {fs gs : List D} {b : Bool} (he : EqFs Fs fs gs b) {M : Mem} {v1 v2 : Value} (h1 : Rep M (.agg fs) v1) (h2 : Rep M (.agg gs) v2)
    (x y : Operand) (w : World) : (do eqGuard .eql t x y v1 v2; binOp .eql t v1 v2 : Sem Value).run P w = .ok (.bool b) w ∧ (do eqGuard .neq t x y v1 v2; binOp .neq t v1 v2 : Sem Value).run P w = .ok (.bool (!b)) w := by
  obtain ⟨fds, hu, hsz, hf, hst, hgd⟩ := hT.und
  cases h1 with
  | agg _ cs hl hc h =>
  cases h2 with
  | agg _ ds hl2 hc2 h2 =>
  have hfo : P.fieldsOf t = fds := by simp [Program.fieldsOf, hu]
  have hr := eqFields_run (P := P) 9998 he M fds.toList 0 cs ds w (by simpa using hsz) (fun j f hj => by obtain ⟨fd, a, b⟩ := hf j f hj; exact ⟨fd, by simpa using a, by simpa using b⟩)
    (fun j f hj => ⟨cs.getD j undef, by have := (List.getElem?_eq_some_iff.1 hj).1; have : cs[j]? = some (cs[j]'(by omega)) := Array.getElem?_eq_getElem (by omega); simp [this], h j f hj⟩)
    (fun j f hj => ⟨ds.getD j undef, by have := (List.getElem?_eq_some_iff.1 hj).1; have : ds[j]? = some (ds[j]'(by omega)) := Array.getElem?_eq_getElem (by omega); simp [this], h2 j f hj⟩)
  have he2 := run_equalIn_struct (P := P) w 9999 t cs ds (by rw [hfo]; exact hu) hst
  rw [hfo, hr] at he2
  constructor
  · rw [Sem.run_bind, run_eqGuard_agg w .eql t x y cs ds hgd]
    simp only [Result.andThen_ok, run_eql_struct, he2]
  · rw [Sem.run_bind, run_eqGuard_agg w .neq t x y cs ds hgd]
    simp only [Result.andThen_ok, run_neq_struct, he2]

end Go.DL

namespace Go.DL
open Go.RowKit
section
variable {X : Env} {w0 : World} {M0 : Mem} {n : Nat} {τ : Ab} {ac : Act} {w : World} {M : Mem} {γ : Nat → Value} {P : Program} {T : Tys}

theorem rep_sc {M : Mem} {u v : Value} (h : Rep M (.sc u) v) : v = u := by cases h; rfl

def boundV (ρ : Operand → Value) (o : Option Operand) (d r : Nat) : Prop :=
  match o with
  | none => r = d
  | some x => ∃ k, ρ x = .int k (r : Int)

theorem boundOf_run (h : SimW X w0 M0 n τ ac w M γ) {o : Option Operand} {d r : Nat} (hb : boundOf τ.val o d r) : boundV ac.eval o d r := by
  cases o with
  | none => exact hb
  | some x =>
    obtain ⟨k, hk⟩ := hb
    have := h.val x
    rw [hk] at this
    exact ⟨k, rep_sc this⟩

theorem sliceBounds_run (P : Program) (w : World) (len cap : Nat) (lo hi : Option Operand) (ρ : Operand → Value) (l h : Nat) (hcap : len ≤ cap)
    (hl : boundV ρ lo 0 l) (hh : boundV ρ hi len h) (h1 : l ≤ h) (h2 : h ≤ len) :
    (Instr.sliceBounds true len cap (lo.map ρ) (hi.map ρ) none).run P w = .ok (l, h, cap) w := by
  have hc : h ≤ cap := Nat.le_trans h2 hcap
  cases lo with
  | none =>
    have hl' : l = 0 := hl
    subst hl'
    cases hi with
    | none => have hh' : h = len := hh; subst hh'; simp [Instr.sliceBounds]
    | some y =>
      obtain ⟨k, hk⟩ := hh
      simp [Instr.sliceBounds, hk, Instr.sliceBound, asIntOf, hc]
  | some x =>
    obtain ⟨k, hk⟩ := hl
    cases hi with
    | none => have hh' : h = len := hh; subst hh'; simp [Instr.sliceBounds, hk, Instr.sliceBound, asIntOf, h1]
    | some y =>
      obtain ⟨k', hk'⟩ := hh
      simp [Instr.sliceBounds, hk, hk', Instr.sliceBound, asIntOf, hc, h1]

theorem field_at {P : Program} {t : TypeId} {Fs : List F} (h : TyOK P t (.st Fs)) {f : Nat} (hf : f < Fs.length) :
    ∃ (fds : Array Field) (fd : Field), P.underlying t = some (.struct fds) ∧ fds[f]? = some fd ∧ fd.offset = f ∧ (∃ i, P.info? fd.type = some i ∧ i.size = 1) ∧ ∃ d, P.underlying fd.type = some d ∧ (match d with | .struct _ | .array _ _ => true | _ => false) = false := by
  obtain ⟨fds, hu, hsz, hfs, _⟩ := h.und
  obtain ⟨fd, h1, h2, _, h3, h4⟩ := hfs f _ (List.getElem?_eq_getElem hf)
  refine ⟨fds, fd, hu, h1, h2, h3, ?_⟩
  cases hk : Fs[f] <;> rw [hk] at h4 <;> simp only at h4
  case sl => obtain ⟨e, he⟩ := h4; exact ⟨_, he, rfl⟩
  all_goals exact ⟨_, h4, rfl⟩

theorem take_agg {M : Mem} {fs : List D} {v : Value} (h : Rep M (.agg fs) v) : ∃ cs : Array Value, v = .agg cs ∧ cs.size = fs.length ∧ (∀ (j : Nat) (f : D), fs[j]? = some f → f.isCell = true ∧ ∃ u, cs[j]? = some u ∧ Rep M f u) := by
  cases h with
  | agg _ cs hl hc h =>
    refine ⟨cs, rfl, hl, fun j f hj => ⟨hc f (List.mem_of_getElem? hj), cs.getD j undef, ?_, h j f hj⟩⟩
    have := (List.getElem?_eq_some_iff.1 hj).1
    have e : cs[j]? = some (cs[j]'(by omega)) := Array.getElem?_eq_getElem (by omega)
    simp [e]

theorem width_one {x : D} (h : x.isCell = true) : x.width = 1 := by cases x <;> first | rfl | cases h

theorem take_sl {M : Mem} {xs : List D} {v : Value} (h : Rep M (.sl xs) v) : ∃ a cap, v = .slice a xs.length cap ∧ xs.length ≤ cap ∧ (∀ (j : Nat) (y : D), xs[j]? = some y → ∃ ad, a = some ad ∧ ElPtr M y (ad.add (j * y.width))) := by
  cases h with
  | nil a cap => exact ⟨a, cap, rfl, Nat.zero_le _, fun j y hj => by simp at hj⟩
  | sl _ ad cap sz c hcap hsp hw hm hs hc ha =>
    refine ⟨some ad, cap, rfl, hcap, fun j y hj => ⟨ad, rfl, addr_add_spot _ _ hsp, fun hy => ?_, fun fs hfs i f hi => ?_⟩⟩
    · have h1 := hw y (List.mem_of_getElem? hj)
      have hj' := (List.getElem?_eq_some_iff.1 hj).1
      have hlt : j * sz < xs.length * sz := Nat.mul_lt_mul_of_pos_right hj' (by rw [← h1, width_one hy]; exact Nat.one_pos)
      rw [h1]
      exact ⟨c (j * sz), hm _ hlt, hs j y hj hy⟩
    · subst hfs
      have h1 := hw _ (List.mem_of_getElem? hj)
      have hj' := (List.getElem?_eq_some_iff.1 hj).1
      have hi' := (List.getElem?_eq_some_iff.1 hi).1
      have hlt : j * sz + i < xs.length * sz := by
        have := Nat.mul_le_mul_right sz (show j + 1 ≤ xs.length from hj')
        rw [Nat.add_mul, Nat.one_mul] at this
        simp only [D.width] at h1
        omega
      rw [h1, addr_add_add]
      exact ⟨hc j fs hj f (List.mem_of_getElem? hi), c (j * sz + i), hm _ hlt, ha j fs hj i f hi⟩

theorem slice_sl {M : Mem} {xs : List D} {v : Value} (h : Rep M (.sl xs) v) {l k : Nat} (h1 : l ≤ k) (h2 : k ≤ xs.length) {W : Nat} (hW : ∀ y ∈ xs, y.width = W) :
    ∃ a cap, v = .slice a xs.length cap ∧ xs.length ≤ cap ∧ Rep M (.sl ((xs.take k).drop l)) (.slice (if cap = l then a else a.map (·.add (l * W))) (k - l) (cap - l)) := by
  have hlen : ((xs.take k).drop l).length = k - l := by simp; omega
  cases h with
  | nil a cap =>
    have e1 : k = 0 := by simpa using h2
    subst e1
    have e2 : l = 0 := by omega
    subst e2
    exact ⟨a, cap, rfl, Nat.zero_le _, by simpa using Rep.nil _ _⟩
  | sl _ ad cap sz c hcap hsp hw hm hs hc ha =>
    refine ⟨some ad, cap, rfl, hcap, ?_⟩
    by_cases hlk : l = k
    · subst hlk
      have e : (xs.take l).drop l = [] := List.eq_nil_of_length_eq_zero (by omega)
      rw [e, Nat.sub_self]
      exact .nil _ _
    · have hx : l < xs.length := by omega
      have hWsz : W = sz := by
        have h3 := List.getElem_mem hx
        rw [← hW _ h3, hw _ h3]
      subst hWsz
      rw [if_neg (by omega)]
      have hget : ∀ (j : Nat) (y : D), ((xs.take k).drop l)[j]? = some y → xs[l + j]? = some y := fun j y hy => by
        rw [List.getElem?_drop, List.getElem?_take] at hy
        split at hy
        · exact hy
        · cases hy
      have := Rep.sl (M := M) ((xs.take k).drop l) (ad.add (l * W)) (cap - l) W (fun j => c (l * W + j)) (by omega) (addr_add_spot _ _ hsp)
        (fun x hx => hw x (List.mem_of_mem_take (List.mem_of_mem_drop hx)))
        (fun j hj => by
          rw [hlen] at hj
          rw [addr_add_add]
          refine hm _ ?_
          have := Nat.mul_le_mul_right W (show l + (k - l) ≤ xs.length by omega)
          rw [Nat.add_mul] at this
          omega)
        (fun j x hx hcx => by
          have h3 := hs (l + j) x (hget j x hx) hcx
          rwa [Nat.add_mul] at h3)
        (fun j fs hx f hf => hc (l + j) fs (hget j _ hx) f hf)
        (fun j fs hx i f hi => by
          have h3 := ha (l + j) fs (hget j _ hx) i f hi
          rw [Nat.add_mul, Nat.add_assoc] at h3
          exact h3)
      rw [hlen] at this
      exact this

theorem len_own {w : World} {b e sz n : Nat} {v : Value} {cs : List Value} (h : w.ownsRow b e sz v n cs) {m : Nat} (hl : LenV v m) : m = n ∧ cutV v m = v := by
  obtain ⟨a, c, hv⟩ := hl
  rcases own_form h with ⟨e, h0⟩ | ⟨g, cap, e, _, _⟩
  · rw [e] at hv ⊢; injection hv with _ h2 _; subst h2; exact ⟨h0.symm, rfl⟩
  · rw [e] at hv ⊢; injection hv with _ h2 _; subst h2; exact ⟨rfl, rfl⟩

theorem RepR.slot (hs : SimW X w0 M0 n τ ac w M γ) {y : D} {s : S} {v : Value} (h : RepR M τ.us γ y v) (hy : RefS y s) : RepS M τ γ s v := by
  cases hy with
  | d _ hr => cases y <;> first | exact h | cases hr
  | av k m =>
    obtain ⟨h1, h2, h3⟩ := h
    refine ⟨⟨h1, h2⟩, fun A hA => ?_⟩
    obtain ⟨_, ⟨⟨cs, ho, _⟩, _⟩⟩ := hs.ow k A hA
    obtain ⟨e1, e2⟩ := len_own ho (h3 ▸ h2)
    exact ⟨Nat.le_of_eq e1, by rw [e2]; exact h3⟩
  | fv k m =>
    obtain ⟨h1, h2, h3⟩ := h
    refine ⟨⟨h1, h2⟩, fun B hB => ?_⟩
    obtain ⟨φ, ht⟩ := hs.tr
    obtain ⟨_, _, hc⟩ := ht.row k B hB
    cases hc with
    | pl _ _ _ h => cases h
    | own _ _ _ _ _ cs ψ ho =>
      obtain ⟨e1, e2⟩ := len_own ho (h3 ▸ h2)
      exact ⟨Nat.le_of_eq e1, by rw [e2]; exact h3⟩

theorem PEff.sound (hT : TOK P T) {o : Oper} {s : S} (h : PEff P T o.op τ.val s) (hs : SimW X w0 M0 n τ ac w M γ) :
    ∃ v, (execOp ac.eval o).run P w = .ok (.value v) w ∧ RepS M τ γ s v := by
  obtain ⟨dst, op, ty, pos, after, guard⟩ := o
  simp only at h
  cases h with
  | move x => exact ⟨ac.eval x, rfl, hs.val x⟩
  | assign x => exact ⟨ac.eval x, rfl, hs.val x⟩
  | pick c a b t hc =>
    have h1 := hs.val c
    rw [hc] at h1
    have h2 := rep_sc h1
    refine ⟨if t then ac.eval a else ac.eval b, ?_, ?_⟩
    · simp [execOp, h2, asBool]
    · cases t
      · exact hs.val b
      · exact hs.val a
  | bin op t x y yt u v r hx hy hb =>
    have h1 := hs.val x; rw [hx] at h1
    have h2 := hs.val y; rw [hy] at h2
    have e1 := rep_sc h1
    have e2 := rep_sc h2
    refine ⟨r, ?_, .sc r hb.1⟩
    have := hb.2 x y w
    simp only [execOp, e1, e2]
    rw [Sem.run_bind, this]
    rfl
  | eqA t x y yt Fs fs gs b hm hx hy he =>
    have h1 := hs.val x; rw [hx] at h1
    have h2 := hs.val y; rw [hy] at h2
    refine ⟨.bool b, ?_, .sc _ rfl⟩
    have := (eqA_run (hT _ hm) he h1 h2 x y w).1
    simp only [execOp]
    rw [Sem.run_bind, this]
    rfl
  | neA t x y yt Fs fs gs b hm hx hy he =>
    have h1 := hs.val x; rw [hx] at h1
    have h2 := hs.val y; rw [hy] at h2
    refine ⟨.bool (!b), ?_, .sc _ rfl⟩
    have := (eqA_run (hT _ hm) he h1 h2 x y w).2
    simp only [execOp]
    rw [Sem.run_bind, this]
    rfl
  | un op t x u r hx hb =>
    have h1 := hs.val x; rw [hx] at h1
    have e1 := rep_sc h1
    refine ⟨r, ?_, .sc r hb.1⟩
    have := hb.2 P w
    simp only [execOp, e1]
    rw [Sem.run_bind, this]
    rfl
  | field t x f Fs fs y hm hl hx hf =>
    have h1 := hs.val x; rw [hx] at h1
    obtain ⟨cs, hv, hsz, hcs⟩ := take_agg h1
    obtain ⟨hy, u, hu, hr⟩ := hcs f y hf
    have hlt := (List.getElem?_eq_some_iff.1 hf).1
    obtain ⟨fds, fd, hun, hfd, hoff, _, d, hd, hda⟩ := field_at (hT _ hm) (f := f) (by omega)
    refine ⟨u, ?_, hr⟩
    have hagg : (isAgg fd.type).run P w = .ok false w := by
      simp only [isAgg, Sem.run_bind, run_underlying hd, Result.andThen_ok]
      cases d <;> first | rfl | cases hda
    simp only [execOp, Instr.field, Sem.run_bind, run_underlying hun, Result.andThen_ok, hfd, hv, asAgg, part, Sem.run_pure, hagg, Bool.false_eq_true, if_false, hoff, hu]
  | fieldE t x f Fs fs y hm hl hx hf =>
    have h1 := hs.val x; rw [hx] at h1
    obtain ⟨ad, hv, hp⟩ := h1
    have hlt := (List.getElem?_eq_some_iff.1 hf).1
    obtain ⟨fds, fd, hun, hfd, hoff, ⟨i, hi, hi1⟩, _⟩ := field_at (hT _ hm) (f := f) (by omega)
    obtain ⟨hy, u, hu, hr⟩ := hp.2.2 fs rfl f y hf
    refine ⟨.pointer (some (ad.add f)), ?_, ad.add f, rfl, addr_add_spot _ _ hp.1, fun _ => ⟨u, hu, hr⟩, fun gs hgs => by subst hgs; cases hy⟩
    simp only [execOp, Instr.fieldAt, Sem.run_bind, run_underlying hun, Result.andThen_ok, hfd, hv, Instr.sureAddr, Sem.run_pure, fieldPlace, sizeOf, typeInfo, run_program, hi, hi1, Nat.one_ne_zero, if_false, hoff]
  | indexD t x ix e ety xs kd j y hm hE hx hi h0 hy hw =>
    have h1 := hs.val x; rw [hx] at h1
    have h2 := hs.val ix; rw [hi] at h2
    have e2 := rep_sc h2
    obtain ⟨a, cap, hv, hcap, hel⟩ := take_sl h1
    obtain ⟨ad, ha, hp⟩ := hel _ y hy
    subst ha
    have hlt := (List.getElem?_eq_some_iff.1 hy).1
    refine ⟨.pointer (some (ad.add (j.toNat * y.width))), ?_, _, rfl, hp⟩
    have hu := (hT _ hm).und
    simp only at hu
    have hin : 0 ≤ j ∧ j < xs.length := ⟨h0, by omega⟩
    simp only [execOp, hv, e2]
    simp [Instr.indexAt, asIntOf, run_underlying hu, hin, run_sizeOf (hT _ hE), ← hw]
  | indexS t x ix s kd j b hm hx hi h0 hb =>
    have h1 := hs.val x; rw [hx] at h1
    have h2 := hs.val ix; rw [hi] at h2
    have e1 := rep_sc h1
    have e2 := rep_sc h2
    have hu := (hT _ hm).und
    simp only at hu
    refine ⟨.int .u8 b.toNat, ?_, .sc _ rfl⟩
    simp only [execOp, e1, e2]
    simp [Instr.index, asIntOf, run_underlying hu, h0, hb]
  | sliceD t x lo hi e ety xs l h hm hE hx hlo hhi hlh hh hw =>
    have h1 := hs.val x; rw [hx] at h1
    obtain ⟨a, cap, hv, hcap, hr⟩ := slice_sl h1 hlh hh hw
    refine ⟨_, ?_, hr⟩
    have hu := (hT _ hm).und
    simp only at hu
    have hb := sliceBounds_run P w xs.length cap lo hi ac.eval l h hcap (boundOf_run hs hlo) (boundOf_run hs hhi) hlh hh
    simp only [execOp, hv, Instr.sliceAt, Sem.run_bind, run_underlying hu, Result.andThen_ok, Instr.slice, Option.map_none, hb, run_sizeOf (hT _ hE), Sem.run_pure]
  | extract x i xs r hx hi =>
    have h1 := hs.val x; rw [hx] at h1
    obtain ⟨vs, hv, hsz, hel⟩ := h1
    have hlt := (List.getElem?_eq_some_iff.1 hi).1
    have e : vs[i]? = some (vs[i]'(by omega)) := Array.getElem?_eq_getElem (by omega)
    have h2 := hel i r hi
    have e2 : vs.getD i undef = vs[i]'(by omega) := by simp [e]
    refine ⟨vs.getD i undef, ?_, ?_⟩
    · simp only [execOp, hv, Instr.extract, e, e2]
      rfl
    · cases r with
      | d x => exact h2
      | av k m => exact h2
      | fv k m => exact h2
  | lenD t x e xs hm hx =>
    have h1 := hs.val x; rw [hx] at h1
    obtain ⟨a, cap, hv, _⟩ := take_sl h1
    have hu := (hT _ hm).und
    simp only at hu
    refine ⟨.int .i64 xs.length, ?_, .sc _ rfl⟩
    simp [execOp, resolve, invoke, builtin, hv, Builtin.len_, run_underlying hu, goInt]
  | lenN t x e hm hx =>
    have h1 := hs.val x; rw [hx] at h1
    have hv : ac.eval x = .slice none 0 0 := h1
    have hu := (hT _ hm).und
    simp only at hu
    refine ⟨.int .i64 0, ?_, .sc _ rfl⟩
    simp [execOp, resolve, invoke, builtin, hv, Builtin.len_, run_underlying hu, goInt]
  | fieldF t x f Fs k i hm hl hx =>
    have h1 := hs.val x; rw [hx] at h1
    obtain ⟨⟨hus, ad, hv, hsp⟩, hlive⟩ := h1
    obtain ⟨fds, fd, hun, hfd, hoff, ⟨i', hi, hi1⟩, _⟩ := field_at (hT _ hm) (f := f) hl
    refine ⟨.pointer (some (ad.add f)), ?_, ⟨hus, ad.add f, rfl, addr_add_spot _ _ hsp⟩, fun B hB => ?_⟩
    · simp only [execOp, Instr.fieldAt, Sem.run_bind, run_underlying hun, Result.andThen_ok, hfd, hv, Instr.sureAddr, Sem.run_pure, fieldPlace, sizeOf, typeInfo, run_program, hi, hi1, Nat.one_ne_zero, if_false, hoff]
    · obtain ⟨hil, g, hg, hv2⟩ := hlive B hB
      rw [hv] at hv2
      injection hv2 with e; injection e with e; subst e
      exact ⟨hil, g, hg, by rw [Addr.add_lit]⟩
  | fieldR t x f Fs fs y _ hm hl hx hf hrs =>
    have h1 := hs.val x; rw [hx] at h1
    obtain ⟨cs, hv, hsz, hcs⟩ := h1
    obtain ⟨hy, hr⟩ := hcs f y hf
    have hlt := (List.getElem?_eq_some_iff.1 hf).1
    obtain ⟨fds, fd, hun, hfd, hoff, _, d, hd, hda⟩ := field_at (hT _ hm) (f := f) (by omega)
    refine ⟨cs.getD f undef, ?_, hr.slot hs hrs⟩
    have hu : cs[f]? = some (cs.getD f undef) := by
      have : cs[f]? = some (cs[f]'(by omega)) := Array.getElem?_eq_getElem (by omega)
      simp [this]
    have hagg : (isAgg fd.type).run P w = .ok false w := by
      simp only [isAgg, Sem.run_bind, run_underlying hd, Result.andThen_ok]
      cases d <;> first | rfl | cases hda
    simp only [execOp, Instr.field, Sem.run_bind, run_underlying hun, Result.andThen_ok, hfd, hv, asAgg, part, Sem.run_pure, hagg, Bool.false_eq_true, if_false, hoff, hu]
  | lenF t x e k m hm hx =>
    have h1 := hs.val x; rw [hx] at h1
    obtain ⟨a, c, hv⟩ := h1.1.2
    have hu := (hT _ hm).und
    simp only at hu
    refine ⟨.int .i64 m, ?_, .sc _ rfl⟩
    simp [execOp, resolve, invoke, builtin, hv, Builtin.len_, run_underlying hu, goInt]
  | lenS t x s hm hx =>
    have h1 := hs.val x; rw [hx] at h1
    have hv := rep_sc h1
    have hu := (hT _ hm).und
    simp only at hu
    refine ⟨.int .i64 s.size, ?_, .sc _ rfl⟩
    simp [execOp, resolve, invoke, builtin, hv, Builtin.len_, run_underlying hu, goInt]
  | min x y t a b hx hy =>
    have h1 := hs.val x; rw [hx] at h1
    have h2 := hs.val y; rw [hy] at h2
    have e1 := rep_sc h1
    have e2 := rep_sc h2
    refine ⟨_, ?_, .sc _ rfl⟩
    simp [execOp, resolve, invoke, builtin, e1, e2, run_min_int2]
  | max x y t a b hx hy =>
    have h1 := hs.val x; rw [hx] at h1
    have h2 := hs.val y; rw [hy] at h2
    have e1 := rep_sc h1
    have e2 := rep_sc h2
    refine ⟨_, ?_, .sc _ rfl⟩
    simp [execOp, resolve, invoke, builtin, e1, e2, run_max_int2]
  | mkfn f => exact ⟨.func (.func f) #[] #[], by simp [execOp, Instr.makeFunc], rfl⟩
  | conv src dst x k k' m sty hm hd hx =>
    have h1 := hs.val x; rw [hx] at h1
    have e1 := rep_sc h1
    obtain ⟨d, hd', _⟩ := und_some (hT _ hm)
    refine ⟨.int k' (k'.wrap m), ?_, .sc _ rfl⟩
    simp only at hd'
    simp [execOp, e1, convert, run_underlying hd', run_underlying hd, Conv.intToInt]
end
end Go.DL
