/- Part of an evaluator of Go code on plain data, proved sound for the model: lemmas alone, for every program; each states its own conditions. -/
import Derived.WalkKit
import Derived.Maps.AppendAt
import Derived.Still
namespace Go.DL
open Go.RowKit

abbrev Mem := Addr → Option Value

/-- Pure data: a scalar, a struct of one-cell fields, a slice. -/
inductive D where
  | sc (v : Value)
  | agg (fs : List D)
  | sl (xs : List D)
  deriving Inhabited

def D.width : D → Nat
  | .agg fs => fs.length
  | _ => 1

def D.isCell : D → Bool
  | .agg _ => false
  | _ => true

/-- The value reads as this data in the immutable memory M. -/
inductive Rep (M : Mem) : D → Value → Prop
  | sc (u : Value) (h : u.oneCell' = true) : Rep M (.sc u) u
  | agg (fs : List D) (cs : Array Value) (hl : cs.size = fs.length) (hc : ∀ f, f ∈ fs → f.isCell = true)
      (h : ∀ (j : Nat) (f : D), fs[j]? = some f → Rep M f (cs.getD j undef)) : Rep M (.agg fs) (.agg cs)
  | nil (a : Option Addr) (cap : Nat) : Rep M (.sl []) (.slice a 0 cap)
  | sl (xs : List D) (ad : Addr) (cap sz : Nat) (c : Nat → Value) (hcap : xs.length ≤ cap) (hsp : ad.spot = none)
      (hw : ∀ x, x ∈ xs → x.width = sz)
      (hm : ∀ j, j < xs.length * sz → M (ad.add j) = some (c j))
      (hs : ∀ (j : Nat) (x : D), xs[j]? = some x → x.isCell = true → Rep M x (c (j * sz)))
      (hc : ∀ (j : Nat) (fs : List D), xs[j]? = some (.agg fs) → ∀ f, f ∈ fs → f.isCell = true)
      (ha : ∀ (j : Nat) (fs : List D), xs[j]? = some (.agg fs) → ∀ (i : Nat) (f : D), fs[i]? = some f → Rep M f (c (j * sz + i))) :
      Rep M (.sl xs) (.slice (some ad) xs.length cap)

def Mem.le (M M' : Mem) : Prop := ∀ a v, M a = some v → M' a = some v
theorem Mem.le_refl (M : Mem) : Mem.le M M := fun _ _ h => h
theorem Mem.le_trans {M M' M'' : Mem} (h : Mem.le M M') (k : Mem.le M' M'') : Mem.le M M'' := fun _ _ e => k _ _ (h _ _ e)

theorem Rep.mono {M M' : Mem} (hM : Mem.le M M') {x : D} {v : Value} (h : Rep M x v) : Rep M' x v := by
  induction h with
  | sc u h => exact .sc u h
  | agg fs cs hl hc h ih => exact .agg fs cs hl hc ih
  | nil a cap => exact .nil a cap
  | sl xs ad cap sz c hcap hsp hw hm hs hc ha ih1 ih2 => exact .sl xs ad cap sz c hcap hsp hw (fun j hj => hM _ _ (hm j hj)) ih1 hc ih2

theorem Rep.oneCell {M : Mem} {x : D} {v : Value} (h : Rep M x v) (hx : x.isCell = true) : v.oneCell' = true := by
  cases h with
  | sc u h => exact h
  | agg => cases hx
  | nil => rfl
  | sl => rfl

/-- An own array: element type, cells an element, elements. -/
structure Arr where
  e : TypeId
  sz : Nat
  xs : List D
  deriving Inhabited

def ElemAt (M : Mem) (x : D) (cs : List Value) (o : Nat) : Prop :=
  (x.isCell = true → ∃ v, cs[o]? = some v ∧ Rep M x v) ∧
  (∀ fs, x = .agg fs → ∀ (i : Nat) (f : D), fs[i]? = some f → f.isCell = true ∧ ∃ v, cs[o + i]? = some v ∧ Rep M f v)

theorem ElemAt.mono {M M' : Mem} (hM : Mem.le M M') {x : D} {cs : List Value} {o : Nat} (h : ElemAt M x cs o) : ElemAt M' x cs o :=
  ⟨fun hx => let ⟨v, h1, h2⟩ := h.1 hx; ⟨v, h1, h2.mono hM⟩, fun fs hf i f hi => let ⟨h0, v, h1, h2⟩ := h.2 fs hf i f hi; ⟨h0, v, h1, h2.mono hM⟩⟩

def CellsOK (M : Mem) (sz : Nat) (xs : List D) (cs : List Value) : Prop :=
  cs.length = xs.length * sz ∧ ∀ (j : Nat) (x : D), xs[j]? = some x → x.width = sz ∧ ElemAt M x cs (j * sz)

theorem CellsOK.mono {M M' : Mem} (hM : Mem.le M M') {sz : Nat} {xs : List D} {cs : List Value} (h : CellsOK M sz xs cs) : CellsOK M' sz xs cs :=
  ⟨h.1, fun j x hx => ⟨(h.2 j x hx).1, (h.2 j x hx).2.mono hM⟩⟩

inductive T1 where
  | d (x : D)
  | av (k m : Nat)

/-- What a slot holds. -/
inductive S where
  | junk
  | un
  | nil
  | d (x : D)
  | el (x : D)
  | av (k m : Nat)
  | ae (k i : Nat)
  | af (k i f : Nat)
  | fn (f : FuncId)
  | tup (xs : List T1)

/-- The abstract state. c: live own arrays; sh: shared (may be read as immutable data); us: the key is in use. -/
structure Ab where
  s : Nat → S
  c : Nat → Option Arr
  sh : Nat → Bool
  us : Nat → Bool

def cutV (v : Value) (m : Nat) : Value :=
  match v with
  | .slice a _ c => .slice a m c
  | v => v

def ElPtr (M : Mem) (x : D) (ad : Addr) : Prop :=
  ad.spot = none ∧ (x.isCell = true → ∃ v, M ad = some v ∧ Rep M x v) ∧
  (∀ fs, x = .agg fs → ∀ (i : Nat) (f : D), fs[i]? = some f → f.isCell = true ∧ ∃ v, M (ad.add i) = some v ∧ Rep M f v)

def RepT (M : Mem) (τ : Ab) (γ : Nat → Value) : T1 → Value → Prop
  | .d x, v => Rep M x v
  | .av k m, v => τ.us k = true ∧ ∀ A, τ.c k = some A → m ≤ A.xs.length ∧ v = cutV (γ k) m

def RepS (M : Mem) (τ : Ab) (γ : Nat → Value) : S → Value → Prop
  | .junk, _ => True
  | .un, v => v = undef
  | .nil, v => v = .slice none 0 0
  | .d x, v => Rep M x v
  | .el x, v => ∃ ad, v = .pointer (some ad) ∧ ElPtr M x ad
  | .av k m, v => τ.us k = true ∧ ∀ A, τ.c k = some A → m ≤ A.xs.length ∧ v = cutV (γ k) m
  | .ae k i, v => τ.us k = true ∧ ∀ A, τ.c k = some A → i < A.xs.length ∧ ∃ g, (γ k).ownBlock = some g ∧ v = .pointer (some ⟨g, i * A.sz, none⟩)
  | .af k i f, v => τ.us k = true ∧ ∀ A, τ.c k = some A → i < A.xs.length ∧ ∃ g, (γ k).ownBlock = some g ∧ v = .pointer (some ⟨g, i * A.sz + f, none⟩)
  | .fn f, v => v = .func (.func f) #[] #[]
  | .tup xs, v => ∃ vs : Array Value, v = .tuple vs ∧ vs.size = xs.length ∧ ∀ (j : Nat) (s : T1), xs[j]? = some s → RepT M τ γ s (vs.getD j undef)

/-- The state may go on from (τ, γ) to (τ', γ'): what a slot held it holds still. -/
def Goes (τ τ' : Ab) (γ γ' : Nat → Value) : Prop :=
  ∀ k, τ.us k = true → τ'.us k = true ∧ ∀ A', τ'.c k = some A' → ∃ A, τ.c k = some A ∧ A'.sz = A.sz ∧ A.xs.length ≤ A'.xs.length ∧ γ' k = γ k

theorem Goes.refl (τ : Ab) (γ : Nat → Value) : Goes τ τ γ γ := fun _ h => ⟨h, fun A hA => ⟨A, hA, rfl, Nat.le_refl _, rfl⟩⟩

theorem ElPtr.mono {M M' : Mem} (hM : Mem.le M M') {x : D} {ad : Addr} (h : ElPtr M x ad) : ElPtr M' x ad :=
  ⟨h.1, fun hx => let ⟨v, h1, h2⟩ := h.2.1 hx; ⟨v, hM _ _ h1, h2.mono hM⟩, fun fs hf i f hi => let ⟨h0, v, h1, h2⟩ := h.2.2 fs hf i f hi; ⟨h0, v, hM _ _ h1, h2.mono hM⟩⟩

theorem RepT.goes {M M' : Mem} (hM : Mem.le M M') {τ τ' : Ab} {γ γ' : Nat → Value} (hg : Goes τ τ' γ γ') {s : T1} {v : Value} (h : RepT M τ γ s v) : RepT M' τ' γ' s v := by
  cases s with
  | d x => exact Rep.mono hM h
  | av k m =>
    obtain ⟨h1, h2⟩ := h
    refine ⟨(hg k h1).1, fun A' hA' => ?_⟩
    obtain ⟨A, hA, _, hl, hγ⟩ := (hg k h1).2 A' hA'
    obtain ⟨h3, h4⟩ := h2 A hA
    exact ⟨by omega, by rw [hγ]; exact h4⟩

theorem RepS.goes {M M' : Mem} (hM : Mem.le M M') {τ τ' : Ab} {γ γ' : Nat → Value} (hg : Goes τ τ' γ γ') {s : S} {v : Value} (h : RepS M τ γ s v) : RepS M' τ' γ' s v := by
  cases s with
  | junk => trivial
  | un => exact h
  | nil => exact h
  | d x => exact Rep.mono hM h
  | el x => obtain ⟨ad, h1, h2⟩ := h; exact ⟨ad, h1, h2.mono hM⟩
  | av k m => exact RepT.goes (s := .av k m) hM hg h
  | ae k i =>
    obtain ⟨h1, h2⟩ := h
    refine ⟨(hg k h1).1, fun A' hA' => ?_⟩
    obtain ⟨A, hA, hs, hl, hγ⟩ := (hg k h1).2 A' hA'
    obtain ⟨h3, g, h4, h5⟩ := h2 A hA
    exact ⟨by omega, g, by rw [hγ]; exact h4, by rw [hs]; exact h5⟩
  | af k i f =>
    obtain ⟨h1, h2⟩ := h
    refine ⟨(hg k h1).1, fun A' hA' => ?_⟩
    obtain ⟨A, hA, hs, hl, hγ⟩ := (hg k h1).2 A' hA'
    obtain ⟨h3, g, h4, h5⟩ := h2 A hA
    exact ⟨by omega, g, by rw [hγ]; exact h4, by rw [hs]; exact h5⟩
  | fn f => exact h
  | tup xs => obtain ⟨vs, h1, h2, h3⟩ := h; exact ⟨vs, h1, h2, fun j s hs => (h3 j s hs).goes hM hg⟩

/-- x: old blocks that the call may write; pn: the keys of lent arrays, which stay what they are. -/
structure Env where
  x : Nat → Prop
  pn : Nat → Option Value

/-- An own array lies in the world. -/
structure OwnOK (X : Env) (w0 w : World) (M : Mem) (sh : Bool) (A : Arr) (v : Value) : Prop where
  own : ∃ cs : List Value, w.ownsRow 0 A.e A.sz v A.xs.length cs ∧ CellsOK M A.sz A.xs cs ∧
    ∀ g, v.ownBlock = some g → ∀ (off : Nat) (sp : Option Nat) (u : Value), M ⟨g, off, sp⟩ = some u → sh = true ∧ off < cs.length ∧ sp = none
  pos : 0 < A.sz
  new : ∀ g, v.ownBlock = some g → w0.heap.size ≤ g ∨ X.x g

/-- THE SIMULATION. X: old blocks that the call may write (arrays handed in as its own). -/
structure SimW (X : Env) (w0 : World) (M0 : Mem) (n : Nat) (τ : Ab) (ac : Act) (w : World) (M : Mem) (γ : Nat → Value) : Prop where
  dfr : ac.defers = []
  fsz : ac.tmps.size = n
  os : w.os = w0.os
  tape : w.tape = w0.tape
  output : w.output = w0.output
  hsz : w0.heap.size ≤ w.heap.size
  frame : ∀ k, k < w0.heap.size → ¬ X.x k → w.heap[k]? = w0.heap[k]?
  m0 : Mem.le M0 M
  mw : ∀ a v, M a = some v → w.cell? a = some v
  mn : ∀ a v, M a = some v → M0 a = some v ∨ w0.heap.size ≤ a.block ∨ X.x a.block
  slots : ∀ t, RepS M τ γ (τ.s t) (ac.tmps.getD t undef)
  ow : ∀ k A, τ.c k = some A → τ.us k = true ∧ OwnOK X w0 w M (τ.sh k) A (γ k)
  di : ∀ k k' A A' g, τ.c k = some A → τ.c k' = some A' → (γ k).ownBlock = some g → (γ k').ownBlock = some g → k = k'
  pin : ∀ k v, X.pn k = some v → 100000 ≤ k ∧ n ≤ k ∧ ∀ A, τ.c k = some A → γ k = v

def Sim (X : Env) (w0 : World) (M0 : Mem) (n : Nat) (τ : Ab) (ac : Act) (w : World) : Prop := ∃ M γ, SimW X w0 M0 n τ ac w M γ

def constS : Value → S
  | .int k n => .d (.sc (.int k n))
  | .bool b => .d (.sc (.bool b))
  | .string s => .d (.sc (.string s))
  | .slice none 0 0 => .nil
  | _ => .junk

def Ab.val (τ : Ab) : Operand → S
  | .tmp t => τ.s t
  | .const v => constS v
  | .global _ => .junk
  | .func f => .fn f

theorem constS_ok (M : Mem) (τ : Ab) (γ : Nat → Value) (v : Value) : RepS M τ γ (constS v) v := by
  unfold constS
  split <;> first | exact Rep.sc _ rfl | rfl | trivial

section
variable {X : Env} {w0 : World} {M0 : Mem} {n : Nat} {τ : Ab} {ac : Act} {w : World} {M : Mem} {γ : Nat → Value}

theorem SimW.val (h : SimW X w0 M0 n τ ac w M γ) (x : Operand) : RepS M τ γ (τ.val x) (ac.eval x) := by
  cases x with
  | tmp t => exact h.slots t
  | const v => exact constS_ok M τ γ v
  | global g => trivial
  | func f => rfl

def Ab.put (τ : Ab) (dst : Option Nat) (s : S) : Ab :=
  match dst with
  | some d => { τ with s := fun t => if t = d then s else τ.s t }
  | none => τ

theorem Goes.put (τ : Ab) (γ : Nat → Value) (dst : Option Nat) (s : S) : Goes τ (τ.put dst s) γ γ := by
  cases dst <;> exact Goes.refl _ _

theorem SimW.put (h : SimW X w0 M0 n τ ac w M γ) {dst : Option Nat} {s : S} {v : Value} (hd : ∀ d, dst = some d → d < n) (hs : RepS M τ γ s v) :
    SimW X w0 M0 n (τ.put dst s) (ac.put dst v) w M γ := by
  cases dst with
  | none => exact h
  | some d =>
    have hd' := hd d rfl
    refine ⟨h.dfr, by simp [Act.put, h.fsz], h.os, h.tape, h.output, h.hsz, h.frame, h.m0, h.mw, h.mn, fun t => ?_, h.ow, h.di, h.pin⟩
    by_cases ht : t = d
    · subst ht
      have e : (ac.put (some t) v).tmps.getD t undef = v := by
        simp [Act.put, h.fsz, hd']
      rw [e]
      have e2 : (τ.put (some t) s).s t = s := by simp [Ab.put]
      rw [e2]
      exact hs.goes (Mem.le_refl M) (Goes.put τ γ (some t) s)
    · have e : (ac.put (some d) v).tmps.getD t undef = ac.tmps.getD t undef := by
        simp [Act.put, Array.getElem?_setIfInBounds_ne (Ne.symm ht)]
      rw [e]
      have e2 : (τ.put (some d) s).s t = τ.s t := by simp [Ab.put, ht]
      rw [e2]
      exact (h.slots t).goes (Mem.le_refl M) (Goes.put τ γ (some d) s)

theorem OwnOK.keep {w' : World} {M' : Mem} {sh sh' : Bool} {A : Arr} {v : Value} (h : OwnOK X w0 w M sh A v) (hM : Mem.le M M')
    (hb : ∀ g, v.ownBlock = some g → w'.heap[g]? = w.heap[g]?)
    (hm : ∀ g, v.ownBlock = some g → ∀ (off : Nat) (sp : Option Nat) (u : Value), M' ⟨g, off, sp⟩ = some u → M ⟨g, off, sp⟩ = some u) (hsh : sh = true → sh' = true) : OwnOK X w0 w' M' sh' A v := by
  obtain ⟨⟨cs, h1, h2, h3⟩, hp, hn⟩ := h
  refine ⟨⟨cs, ⟨h1.1, ?_⟩, h2.mono hM, fun g hg off sp u hu => ?_⟩, hp, hn⟩
  · rcases h1.2 with hl | ⟨g, cap, cur, hv, r1, r2, r3⟩
    · exact .inl hl
    · refine .inr ⟨g, cap, cur, hv, r1, ?_, r3⟩
      rw [hb g (by rw [hv]; rfl)]
      exact r2
  · obtain ⟨a1, a2, a3⟩ := h3 g hg off sp u (hm g hg off sp u hu)
    exact ⟨hsh a1, a2, a3⟩

theorem OwnOK.lt {sh : Bool} {A : Arr} {v : Value} (h : OwnOK X w0 w M sh A v) : ∀ g, v.ownBlock = some g → g < w.heap.size := by
  intro g hg
  obtain ⟨⟨cs, h1, _⟩, _⟩ := h
  exact (h1.lt g hg).2

/-- Draws do not matter. -/
theorem SimW.drew (h : SimW X w0 M0 n τ ac w M γ) (k : Nat) : SimW X w0 M0 n τ ac { w with drawn := k } M γ :=
  ⟨h.dfr, h.fsz, h.os, h.tape, h.output, h.hsz, h.frame, h.m0, h.mw, h.mn, h.slots, fun k A hA => ⟨(h.ow k A hA).1, (h.ow k A hA).2.keep (Mem.le_refl M) (fun _ _ => rfl) (fun _ _ _ _ _ hu => hu) id⟩, h.di, h.pin⟩

/-! ### A new block -/
def Ab.al (τ : Ab) (k : Nat) (A : Arr) : Ab :=
  { τ with c := fun j => if j = k then some A else τ.c j, us := fun j => if j = k then true else τ.us j }

def upd (γ : Nat → Value) (k : Nat) (v : Value) : Nat → Value := fun j => if j = k then v else γ j

theorem Goes.al (τ : Ab) (γ : Nat → Value) {k : Nat} {A : Arr} {v : Value} (hk : τ.us k = false) : Goes τ (τ.al k A) γ (upd γ k v) := by
  intro j hj
  have hne : j ≠ k := fun e => by rw [e, hk] at hj; cases hj
  refine ⟨by simp [Ab.al, hne, hj], fun A' hA' => ⟨A', ?_, rfl, Nat.le_refl _, by simp [upd, hne]⟩⟩
  simpa [Ab.al, hne] using hA'

theorem no_mem_new (h : SimW X w0 M0 n τ ac w M γ) {g : Nat} (hg : w.heap.size ≤ g) (off : Nat) (sp : Option Nat) : M ⟨g, off, sp⟩ = none := by
  cases hm : M ⟨g, off, sp⟩ with
  | none => rfl
  | some u =>
    have := block_lt_of_cell (h.mw _ _ hm)
    simp only at this
    omega

theorem SimW.al (h : SimW X w0 M0 n τ ac w M γ) {k : Nat} {A : Arr} {w' : World} {M' : Mem} {v : Value} (hk : τ.us k = false) (hkn : k < n)
    (hb : Below w.heap.size w w') (hle : Mem.le M M') (hmw : ∀ a v, M' a = some v → w'.cell? a = some v) (hmn : ∀ a v, M' a = some v → M a = some v ∨ w.heap.size ≤ a.block)
    (cs : List Value) (hown : w'.ownsRow w.heap.size A.e A.sz v A.xs.length cs) (hcs : CellsOK M' A.sz A.xs cs) (hpos : 0 < A.sz)
    (hnm : ∀ g, v.ownBlock = some g → ∀ off sp, M' ⟨g, off, sp⟩ = none) :
    SimW X w0 M0 n (τ.al k A) ac w' M' (upd γ k v) := by
  refine ⟨h.dfr, h.fsz, hb.os.trans h.os, hb.tape.trans h.tape, hb.output.trans h.output, Nat.le_trans h.hsz hb.size,
    fun j hj hX => (hb.block j (Nat.lt_of_lt_of_le hj h.hsz)).trans (h.frame j hj hX), Mem.le_trans h.m0 hle, hmw, fun a u hau => ?_, fun t => ?_, fun j A' hA' => ?_, fun j j' A1 A2 g h1 h2 g1 g2 => ?_, fun j v' hj => ?_⟩
  · rcases hmn a u hau with h1 | h1
    · exact h.mn a u h1
    · exact .inr (.inl (Nat.le_trans h.hsz h1))
  · exact (h.slots t).goes hle (Goes.al τ γ hk)
  · by_cases hj : j = k
    · subst hj
      have e : A' = A := by simpa [Ab.al] using hA'.symm
      subst e
      refine ⟨by simp [Ab.al], ⟨⟨cs, ?_, hcs, ?_⟩, hpos, ?_⟩⟩
      · refine ⟨hown.1, ?_⟩
        simp only [upd, if_true]
        rcases hown.2 with hl | ⟨g, cap, cur, hv, r1, r2⟩
        · exact .inl hl
        · exact .inr ⟨g, cap, cur, hv, Nat.zero_le _, r2⟩
      · intro g hg off sp u hu
        simp only [upd, if_true] at hg
        rw [hnm g hg off sp] at hu
        cases hu
      · intro g hg
        simp only [upd, if_true] at hg
        exact .inl (Nat.le_trans h.hsz (hown.lt g hg).1)
    · have hA : τ.c j = some A' := by simpa [Ab.al, hj] using hA'
      obtain ⟨h1, h2⟩ := h.ow j A' hA
      refine ⟨by simp [Ab.al, hj, h1], ?_⟩
      have e : upd γ k v j = γ j := by simp [upd, hj]
      rw [e]
      refine h2.keep hle (fun g hg => hb.block g (h2.lt g hg)) (fun g hg off sp u hu => ?_) id
      rcases hmn _ u hu with h3 | h3
      · exact h3
      · have := h2.lt g hg
        simp only at h3
        omega
  · by_cases e1 : j = k
    · by_cases e2 : j' = k
      · rw [e1, e2]
      · exfalso
        subst e1
        have hA : τ.c j' = some A2 := by simpa [Ab.al, e2] using h2
        simp only [upd, if_true] at g1
        simp only [upd, e2, if_false] at g2
        have := (h.ow j' A2 hA).2.lt g g2
        have := (hown.lt g g1).1
        omega
    · by_cases e2 : j' = k
      · exfalso
        subst e2
        have hA : τ.c j = some A1 := by simpa [Ab.al, e1] using h1
        simp only [upd, if_true] at g2
        simp only [upd, e1, if_false] at g1
        have := (h.ow j A1 hA).2.lt g g1
        have := (hown.lt g g2).1
        omega
      · simp only [upd, e1, e2, if_false] at g1 g2
        exact h.di j j' A1 A2 g (by simpa [Ab.al, e1] using h1) (by simpa [Ab.al, e2] using h2) g1 g2
  · obtain ⟨p1, p2, p3⟩ := h.pin j v' hj
    have hne : j ≠ k := by omega
    refine ⟨p1, p2, fun A' hA' => ?_⟩
    have hA : τ.c j = some A' := by simpa [Ab.al, hne] using hA'
    have e : upd γ k v j = γ j := by simp [upd, hne]
    rw [e]; exact p3 A' hA

/-- A new block of cells laid by the operation itself. -/
theorem SimW.alNew (h : SimW X w0 M0 n τ ac w M γ) {k : Nat} {A : Arr} (cs : List Value) (hk : τ.us k = false) (hkn : k < n) (hcs : CellsOK M A.sz A.xs cs) (hpos : 0 < A.sz) (hm : A.xs.length ≤ maxLen) :
    SimW X w0 M0 n (τ.al k A) ac (w.alloc (.cells cs.toArray A.e)) M (upd γ k (.slice (some ⟨w.heap.size, 0, none⟩) A.xs.length A.xs.length)) := by
  refine h.al hk hkn ((Below.refl _ _).alloc (Nat.le_refl _) _) (Mem.le_refl M) (fun a v hav => ?_) (fun a v hav => .inl hav) cs ?_ hcs hpos (fun g hg off sp => ?_)
  · have h1 := h.mw a v hav
    rw [World.cell?_alloc_lt w _ a (block_lt_of_cell h1)]
    exact h1
  · refine ⟨hcs.1, .inr ⟨w.heap.size, A.xs.length, cs.toArray, rfl, Nat.le_refl _, heap_alloc_new w _, Nat.le_refl _, hm, by simp [hcs.1], by simp [← hcs.1]⟩⟩
  · have e : w.heap.size = g := Option.some.inj hg
    exact no_mem_new h (Nat.le_of_eq e) off sp

end
end Go.DL
