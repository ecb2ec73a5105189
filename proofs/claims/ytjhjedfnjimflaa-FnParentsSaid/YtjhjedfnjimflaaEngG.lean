/- Part of an evaluator of Go code on plain data, proved sound for the model: lemmas alone, for every program; each states its own conditions. -/
import Derived.Test.YtjhjedfnjimflaaEngF
namespace Go.DL
open Go.RowKit

/-! ### Contracts -/
inductive A1 where
  | d (x : D)
  | fn (f : FuncId)
def RepA (M : Mem) : A1 → Value → Prop
  | .d x, v => Rep M x v
  | .fn f, v => v = .func (.func f) #[] #[]

inductive R1 where
  | d (x : D)
  | own (A : Arr)
  | ptr (A : Arr)
inductive Res where
  | one (r : R1)
  | tup (r : R1) (rest : List D)

def RepR1 (w w' : World) (M' : Mem) : R1 → Value → Prop
  | .d x, v => Rep M' x v
  | .own A, v => 0 < A.sz ∧ ∃ cs : List Value, w'.ownsRow w.heap.size A.e A.sz v A.xs.length cs ∧ CellsOK M' A.sz A.xs cs ∧ ∀ g, v.ownBlock = some g → ∀ off sp, M' ⟨g, off, sp⟩ = none
  | .ptr A, v => 0 < A.sz ∧ 0 < A.xs.length ∧ ∃ (u : Value) (g : Nat), u.ownBlock = some g ∧ v = .pointer (some ⟨g, 0, none⟩) ∧ ∃ cs : List Value, w'.ownsRow w.heap.size A.e A.sz u A.xs.length cs ∧ CellsOK M' A.sz A.xs cs ∧ ∀ off sp, M' ⟨g, off, sp⟩ = none
def RepRes (w w' : World) (M' : Mem) : Res → Value → Prop
  | .one r, v => RepR1 w w' M' r v
  | .tup r rest, v => ∃ vs : Array Value, v = .tuple vs ∧ vs.size = rest.length + 1 ∧ RepR1 w w' M' r (vs.getD 0 undef) ∧ ∀ (j : Nat) (x : D), rest[j]? = some x → Rep M' x (vs.getD (j + 1) undef)

def Enters (P : Program) (f : FuncId) : Prop := ∀ (args : Array Value) (w : World), (callFunc f args).run P w = .ok (.enter f args) w

def After (w : World) (M : Mem) (r : Res) (e : Ending) (w' : World) : Prop :=
  ∃ v M', e = .returned v ∧ Below w.heap.size w w' ∧ Mem.le M M' ∧ (∀ a u, M' a = some u → w'.cell? a = some u) ∧ (∀ a u, M' a = some u → M a = some u ∨ w.heap.size ≤ a.block) ∧ RepRes w w' M' r v

/-- Every call of f with arguments that read so hands back what reads so, and turns nothing that was there. -/
structure Contract (P : Program) (f : FuncId) (as : List A1) (r : Res) : Prop where
  ent : Enters P f
  run : ∀ (w : World) (M : Mem) (vs : Array Value), (∀ a v, M a = some v → w.cell? a = some v) → vs.size = as.length → (∀ (j : Nat) (a : A1), as[j]? = some a → RepA M a (vs.getD j undef)) →
    Calls P f vs w (After w M r)

/-! ### Calls to which an own array is lent, and calls whose result is known by a property -/
inductive A2 where
  | d (x : D)
  | fn (f : FuncId)
  | lv
  | lp
def RepA2 (M : Mem) (γ : Value) : A2 → Value → Prop
  | .d x, v => Rep M x v
  | .fn f, v => v = .func (.func f) #[] #[]
  | .lv, v => v = γ
  | .lp, v => ∃ g, γ.ownBlock = some g ∧ v = .pointer (some ⟨g, 0, none⟩)
/-- An array that is lent: it lies in the world, and nothing that is immutable lies in it. -/
structure LentOK (w : World) (M : Mem) (A : Arr) (v : Value) : Prop where
  own : ∃ cs : List Value, w.ownsRow 0 A.e A.sz v A.xs.length cs ∧ CellsOK M A.sz A.xs cs
  nm : ∀ g, v.ownBlock = some g → ∀ off sp, M ⟨g, off, sp⟩ = none
  pos : 0 < A.sz
structure LAfter (w : World) (M : Mem) (γ : Value) (A : Option Arr) (w' : World) (M' : Mem) (xs : List D) : Prop where
  os : w'.os = w.os
  tape : w'.tape = w.tape
  output : w'.output = w.output
  hsz : w.heap.size ≤ w'.heap.size
  frame : ∀ k, k < w.heap.size → (∀ A0, A = some A0 → γ.ownBlock ≠ some k) → w'.heap[k]? = w.heap[k]?
  le : Mem.le M M'
  mw : ∀ a u, M' a = some u → w'.cell? a = some u
  mn : ∀ a u, M' a = some u → M a = some u ∨ w.heap.size ≤ a.block
  lent : ∀ A0, A = some A0 → xs.length = A0.xs.length ∧ LentOK w' M' ⟨A0.e, A0.sz, xs⟩ γ
def LEnds (w : World) (M : Mem) (γ : Value) (A : Option Arr) (R : Res → List D → Prop) (e : Ending) (w' : World) : Prop :=
  ∃ v M' r xs, R r xs ∧ e = .returned v ∧ LAfter w M γ A w' M' xs ∧ RepRes w w' M' r v
/-- Every call with such arguments, and such an array lent, hands back what is so. -/
structure LContract (P : Program) (f : FuncId) (as : List A2) (A : Option Arr) (R : Res → List D → Prop) : Prop where
  ent : Enters P f
  run : ∀ (w : World) (M : Mem) (γ : Value) (vs : Array Value), (∀ a v, M a = some v → w.cell? a = some v) → (∀ A0, A = some A0 → LentOK w M A0 γ) → vs.size = as.length → (∀ (j : Nat) (a : A2), as[j]? = some a → RepA2 M γ a (vs.getD j undef)) →
    Calls P f vs w (LEnds w M γ A R)

inductive ToA (τ : Ab) : S → A1 → List Nat → Prop
  | d {s : S} {x : D} {ks : List Nat} (h : ToD τ s x ks) : ToA τ s (.d x) ks
  | fn (f : FuncId) : ToA τ (.fn f) (.fn f) []
inductive ToAs (τ : Ab) : List S → List A1 → List Nat → Prop
  | nil : ToAs τ [] [] []
  | cons {s : S} {x : A1} {k : List Nat} {ss : List S} {xs : List A1} {ks : List Nat} (h : ToA τ s x k) (t : ToAs τ ss xs ks) : ToAs τ (s :: ss) (x :: xs) (k ++ ks)

/-- What is lent is array k. -/
inductive ToL (τ : Ab) (k : Nat) (A : Option Arr) : S → A2 → List Nat → Prop
  | d {s : S} {x : D} {ks : List Nat} (h : ToD τ s x ks) : ToL τ k A s (.d x) ks
  | fn (f : FuncId) : ToL τ k A (.fn f) (.fn f) []
  | lv (m : Nat) (A0 : Arr) (hA : A = some A0) (h : m = A0.xs.length) : ToL τ k A (.av k m) .lv []
  | lp (A0 : Arr) (hA : A = some A0) : ToL τ k A (.ae k 0) .lp []
inductive ToLs (τ : Ab) (k : Nat) (A : Option Arr) : List S → List A2 → List Nat → Prop
  | nil : ToLs τ k A [] [] []
  | cons {s : S} {x : A2} {j : List Nat} {ss : List S} {xs : List A2} {ks : List Nat} (h : ToL τ k A s x j) (t : ToLs τ k A ss xs ks) : ToLs τ k A (s :: ss) (x :: xs) (j ++ ks)
theorem ToL.locl {τ τ' : Ab} {k : Nat} {A : Option Arr} {s : S} {x : A2} {ks : List Nat} (h : ToL τ k A s x ks) (hc : ∀ j, (∃ A, s = .av j A) → τ'.c j = τ.c j) : ToL τ' k A s x ks := by
  cases h with
  | d h =>
    refine .d ?_
    cases h with
    | d => exact .d _
    | nil => exact .nil
    | av j m A0 hA => exact .av j m A0 (by rw [hc j ⟨m, rfl⟩]; exact hA)
  | fn f => exact .fn f
  | lv m A0 hA h => exact .lv m A0 hA h
  | lp A0 hA => exact .lp A0 hA

theorem ToA.of_c {τ τ' : Ab} (hc : τ'.c = τ.c) {s : S} {x : A1} {ks : List Nat} (h : ToA τ s x ks) : ToA τ' s x ks := by
  cases h with
  | d h => exact .d (h.of_c hc)
  | fn f => exact .fn f
theorem ToAs.of_c {τ τ' : Ab} (hc : τ'.c = τ.c) {ss : List S} {xs : List A1} {ks : List Nat} (h : ToAs τ ss xs ks) : ToAs τ' ss xs ks := by
  induction h with
  | nil => exact .nil
  | cons h t ih => exact .cons (h.of_c hc) ih
theorem RepA.mono {M M' : Mem} (hM : Mem.le M M') {a : A1} {v : Value} (h : RepA M a v) : RepA M' a v := by
  cases a with
  | d x => exact Rep.mono hM h
  | fn f => exact h

structure Ef where
  s : S
  sh : List Nat := []
  al : Option (Nat × Arr) := none
  up : Option (Nat × Arr) := none
  ki : Option Nat := none

def Ab.kiO (τ : Ab) : Option Nat → Ab
  | some k => τ.kill k
  | none => τ
def Ab.upO (τ : Ab) : Option (Nat × Arr) → Ab
  | some (k, A) => τ.up k A
  | none => τ
def Ab.alO (τ : Ab) : Option (Nat × Arr) → Ab
  | some (k, A) => τ.al k A
  | none => τ
def Ab.eff (τ : Ab) (dst : Option Nat) (e : Ef) : Ab := ((((τ.shares e.sh).kiO e.ki).upO e.up).alO e.al).put dst e.s

def LoadFit : Ty → D → Prop
  | .st fs, .agg gs => fs.length = gs.length
  | .st _, _ => False
  | _, .agg _ => False
  | _, _ => True

inductive ResE (τ : Ab) (dst : Option Nat) : Res → S → Option (Nat × Arr) → Prop
  | d (x : D) : ResE τ dst (.one (.d x)) (.d x) none
  | own (A : Arr) (d : Nat) (h : dst = some d) (hu : τ.us d = false) : ResE τ dst (.one (.own A)) (.av d A.xs.length) (some (d, A))
  | ptr (A : Arr) (d : Nat) (h : dst = some d) (hu : τ.us d = false) : ResE τ dst (.one (.ptr A)) (.ae d 0) (some (d, A))
  | tupd (x : D) (rest : List D) : ResE τ dst (.tup (.d x) rest) (.tup (.d x :: rest.map .d)) none
  | tupo (A : Arr) (rest : List D) (d : Nat) (h : dst = some d) (hu : τ.us d = false) : ResE τ dst (.tup (.own A) rest) (.tup (.av d A.xs.length :: rest.map .d)) (some (d, A))

def D.flat : D → Bool
  | .sc _ => true
  | _ => false
inductive FlatRes : Res → S → Prop
  | d (v : Value) : FlatRes (.one (.d (.sc v))) (.d (.sc v))
  | tup (v : Value) (rest : List Value) : FlatRes (.tup (.d (.sc v)) (rest.map .sc)) (.tup (.d (.sc v) :: rest.map fun u => .d (.sc u)))

/-- What an operand holds, read where it stands. -/
inductive ToCont (τ : Ab) : S → List D → Prop
  | d (xs : List D) : ToCont τ (.d (.sl xs)) xs
  | nil : ToCont τ .nil []
  | av (k m : Nat) (A : Arr) (h : τ.c k = some A) : ToCont τ (.av k m) (A.xs.take m)

/-- Operations that read memory or lay new memory. -/
inductive TEff (P : Program) (T : Tys) (o : Oper) (τ : Ab) : Ef → Prop
  | pure (s : S) (h : PEff P T o.op τ.val s) : TEff P T o τ { s }
  | alloc (t : TypeId) (ty : Ty) (d : Nat) (ho : o.op = .alloc t) (hd : o.dst = some d) (hu : τ.us d = false) (hT : (t, ty) ∈ T) (hw : 0 < ty.width) :
      TEff P T o τ { s := .ae d 0, al := some (d, ⟨t, ty.width, [ty.zeroD]⟩) }
  | box (t : TypeId) (x : Operand) (y : D) (ks : List Nat) (d : Nat) (ho : o.op = .box t x) (hd : o.dst = some d) (hu : τ.us d = false) (hx : ToD τ (τ.val x) y ks) (hw : 0 < y.width) :
      TEff P T o τ { s := .ae d 0, sh := ks, al := some (d, ⟨t, y.width, [y]⟩) }
  | build (t : TypeId) (parts : Array (Nat × Operand)) (Fs : List F) (ds : List D) (ks : List Nat) (ho : o.op = .build t parts) (hT : (t, .st Fs) ∈ T)
      (hx : ToDs τ (parts.toList.map fun p => τ.val p.2) ds ks) (hc : ∀ d ∈ ds, d.isCell = true) (hi : ∀ p ∈ parts.toList, p.1 < Fs.length) :
      TEff P T o τ { s := .d (.agg (((parts.toList.map (·.1)).zip ds).foldl (fun xs q => xs.set q.1 q.2) (Fs.map F.zeroD))), sh := ks }
  | buildSlice (t : TypeId) (len : Nat) (parts : Array (Nat × Operand)) (e : TypeId) (ety : Ty) (ds : List D) (ks : List Nat) (d : Nat) (ho : o.op = .buildSlice t len parts) (hd : o.dst = some d) (hu : τ.us d = false)
      (hT : (t, .sl e) ∈ T) (hE : (e, ety) ∈ T) (hx : ToDs τ (parts.toList.map fun p => τ.val p.2) ds ks) (hc : ∀ d ∈ ds, d.width = ety.width) (hi : ∀ p ∈ parts.toList, p.1 < len) (hw : 0 < ety.width) (hl : len * ety.width ≤ 2 ^ 24) :
      TEff P T o τ { s := .av d len, sh := ks, al := some (d, ⟨e, ety.width, ((parts.toList.map (·.1)).zip ds).foldl (fun xs q => xs.set q.1 q.2) (List.replicate len ety.zeroD)⟩) }
  | makeSlice (t : TypeId) (x y : Operand) (m : Nat) (k k' : IntKind) (e : TypeId) (ety : Ty) (d : Nat) (ho : o.op = .makeSlice t x y) (hd : o.dst = some d) (hu : τ.us d = false) (hT : (t, .sl e) ∈ T) (hE : (e, ety) ∈ T)
      (hx : τ.val x = .d (.sc (.int k (m : Int)))) (hy : τ.val y = .d (.sc (.int k' (m : Int)))) (hm : m ≤ 34359738368) (hw : 0 < ety.width) :
      TEff P T o τ { s := .av d m, al := some (d, ⟨e, ety.width, List.replicate m ety.zeroD⟩) }
  | loadE (t : TypeId) (x : Operand) (y : D) (ty : Ty) (ho : o.op = .load t x) (hT : (t, ty) ∈ T) (hx : τ.val x = .el y) (hf : LoadFit ty y) : TEff P T o τ { s := .d y }
  | loadA (t : TypeId) (x : Operand) (k i : Nat) (A : Arr) (y : D) (ty : Ty) (ho : o.op = .load t x) (hT : (t, ty) ∈ T) (hx : τ.val x = .ae k i) (hA : τ.c k = some A) (hy : A.xs[i]? = some y) (hf : LoadFit ty y) : TEff P T o τ { s := .d y }
  | loadF (t : TypeId) (x : Operand) (k i f : Nat) (A : Arr) (fs : List D) (y : D) (ty : Ty) (ho : o.op = .load t x) (hT : (t, ty) ∈ T) (hx : τ.val x = .af k i f) (hA : τ.c k = some A) (hi : A.xs[i]? = some (.agg fs)) (hy : fs[f]? = some y)
      (hf : LoadFit ty y) : TEff P T o τ { s := .d y }
  | fieldA (t : TypeId) (x : Operand) (f : Nat) (Fs : List F) (k i : Nat) (A : Arr) (ho : o.op = .fieldAddr t x f) (hT : (t, .st Fs) ∈ T) (hl : f < Fs.length) (hx : τ.val x = .ae k i) (hA : τ.c k = some A) : TEff P T o τ { s := .af k i f }
  | sliceA (t : TypeId) (x : Operand) (hi : Option Operand) (e : TypeId) (ety : Ty) (k m h : Nat) (A : Arr) (ho : o.op = .slice t x none hi none) (hT : (t, .sl e) ∈ T) (hE : (e, ety) ∈ T) (hx : τ.val x = .av k m) (hA : τ.c k = some A)
      (hhi : boundOf τ.val hi m h) (hh : h ≤ m) : TEff P T o τ { s := .av k h }
  | indexA (t : TypeId) (x ix : Operand) (e : TypeId) (ety : Ty) (k m j : Nat) (kd : IntKind) (A : Arr) (ho : o.op = .indexAddr t x ix) (hT : (t, .sl e) ∈ T) (hE : (e, ety) ∈ T) (hx : τ.val x = .av k m) (hA : τ.c k = some A) (hsz : ety.width = A.sz)
      (hi : τ.val ix = .d (.sc (.int kd (j : Int)))) (hj : j < m) : TEff P T o τ { s := .ae k j }
  | lenA (t : TypeId) (x : Operand) (e : TypeId) (k m : Nat) (A : Arr) (ho : o.op = .call { callee := .builtin .len, args := #[x], argTypes := #[t] }) (hT : (t, .sl e) ∈ T) (hx : τ.val x = .av k m) (hA : τ.c k = some A) : TEff P T o τ { s := .d (.sc (.int .i64 m)) }
  | nilA (x : Operand) (k i : Nat) (A : Arr) (ho : o.op = .nilCheck x) (hx : τ.val x = .ae k i) (hA : τ.c k = some A) : TEff P T o τ { s := .ae k i }
  | call (fx : Operand) (args : Array Operand) (tys : Array TypeId) (f : FuncId) (as : List A1) (ks : List Nat) (r : Res) (s : S) (al : Option (Nat × Arr)) (ho : o.op = .call { callee := .value fx, args, argTypes := tys }) (hf : τ.val fx = .fn f)
      (hx : ToAs τ (args.toList.map τ.val) as ks) (hc : Contract P f as r) (hr : ResE τ o.dst r s al) : TEff P T o τ { s, sh := ks, al }
  | callFlat (fx : Operand) (args : Array Operand) (tys : Array TypeId) (f : FuncId) (as : List A1) (ks : List Nat) (r : Res) (s : S) (ho : o.op = .call { callee := .value fx, args, argTypes := tys }) (hf : τ.val fx = .fn f)
      (hx : ToAs τ (args.toList.map τ.val) as ks) (hc : Contract P f as r) (hr : FlatRes r s) : TEff P T o τ { s }

/-- Operations that write. R holds 100000 + f for each function f to which arrays are lent. -/
inductive WEff (P : Program) (T : Tys) (R : List Nat) (o : Oper) (τ : Ab) : Ef → Prop
  | storeA (t : TypeId) (x y : Operand) (k i : Nat) (A : Arr) (z : D) (ks : List Nat) (ty : Ty) (ho : o.op = .store t x y) (hT : (t, ty) ∈ T) (hx : τ.val x = .ae k i) (hA : τ.c k = some A) (hy : ToD τ (τ.val y) z ks)
      (hsh : (τ.shares ks).sh k = false) (hi : i < A.xs.length) (hz : z.width = A.sz) (hw : ty.width = A.sz) : WEff P T R o τ { s := .un, sh := ks, up := some (k, ⟨A.e, A.sz, A.xs.set i z⟩) }
  | storeF (t : TypeId) (x y : Operand) (k i f : Nat) (A : Arr) (fs : List D) (z : D) (ks : List Nat) (ty : Ty) (ho : o.op = .store t x y) (hT : (t, ty) ∈ T) (hx : τ.val x = .af k i f) (hA : τ.c k = some A) (hy : ToD τ (τ.val y) z ks)
      (hsh : (τ.shares ks).sh k = false) (hi : A.xs[i]? = some (.agg fs)) (hf : f < fs.length) (hz : z.isCell = true) (hw : ty.width = 1) : WEff P T R o τ { s := .un, sh := ks, up := some (k, ⟨A.e, A.sz, A.xs.set i (.agg (fs.set f z))⟩) }
  | appendA (t : TypeId) (x y : Operand) (e : TypeId) (ety : Ty) (k m d : Nat) (A : Arr) (ys : List D) (ho : o.op = .call { callee := .builtin .append, args := #[x, y], argTypes := #[t, t] }) (hd : o.dst = some d) (hu : τ.us d = false)
      (hds : τ.sh d = false) (hT : (t, .sl e) ∈ T) (hE : (e, ety) ∈ T) (hx : τ.val x = .av k m) (hA : τ.c k = some A) (hsh : τ.sh k = false) (he : A.e = e) (hsz : ety.width = A.sz) (hy : ToCont τ (τ.val y) ys) (hw : ∀ z ∈ ys, z.width = ety.width)
      (hl : m + ys.length ≤ 34359738368) : WEff P T R o τ { s := .av d (m + ys.length), ki := some k, al := some (d, ⟨A.e, A.sz, A.xs.take m ++ ys⟩) }
  | appendN (t : TypeId) (x y : Operand) (e : TypeId) (ety : Ty) (d : Nat) (ys : List D) (ho : o.op = .call { callee := .builtin .append, args := #[x, y], argTypes := #[t, t] }) (hd : o.dst = some d) (hu : τ.us d = false)
      (hT : (t, .sl e) ∈ T) (hE : (e, ety) ∈ T) (hp : 0 < ety.width) (hx : τ.val x = .nil) (hy : ToCont τ (τ.val y) ys) (hw : ∀ z ∈ ys, z.width = ety.width)
      (hl : ys.length ≤ 34359738368) : WEff P T R o τ { s := .av d ys.length, al := some (d, ⟨e, ety.width, ys⟩) }
  | lcall (fx : Operand) (args : Array Operand) (tys : Array TypeId) (f : FuncId) (as : List A2) (ks : List Nat) (k : Nat) (A : Arr) (r : Res) (xs : List D) (s : S) (al : Option (Nat × Arr)) (ho : o.op = .call { callee := .value fx, args, argTypes := tys })
      (hfx : fx = .func f) (hL : R.contains (100000 + f) = true) (hx : ToLs τ k (some A) (args.toList.map τ.val) as ks) (hk : ∃ p ∈ args.toList, τ.val p = .av k A.xs.length ∨ τ.val p = .ae k 0) (hA : τ.c k = some A) (hsh : (τ.shares ks).sh k = false)
      (hc : LContract P f as (some A) (fun r' xs' => r' = r ∧ xs' = xs)) (hr : ResE τ o.dst r s al) : WEff P T R o τ { s, sh := ks, al, up := some (k, ⟨A.e, A.sz, xs⟩) }

/-- A call whose results are known by a property; E holds what may come of it. -/
inductive DEff (P : Program) (T : Tys) (o : Oper) (τ : Ab) (E : Ef → Prop) : Prop
  | lcall (fx : Operand) (args : Array Operand) (tys : Array TypeId) (f : FuncId) (as : List A2) (ks : List Nat) (k : Nat) (A : Arr) (R : Res → List D → Prop) (ho : o.op = .call { callee := .value fx, args, argTypes := tys })
      (hfx : fx = .func f) (hx : ToLs τ k (some A) (args.toList.map τ.val) as ks) (hA : τ.c k = some A) (hsh : (τ.shares ks).sh k = false)
      (hc : LContract P f as (some A) R) (hr : ∀ r xs, R r xs → ∃ s al, ResE τ o.dst r s al ∧ E { s, sh := ks, al, up := some (k, ⟨A.e, A.sz, xs⟩) })
  | pcall (fx : Operand) (args : Array Operand) (tys : Array TypeId) (f : FuncId) (as : List A2) (ks : List Nat) (R : Res → List D → Prop) (ho : o.op = .call { callee := .value fx, args, argTypes := tys })
      (hfx : fx = .func f) (hx : ToLs τ 0 none (args.toList.map τ.val) as ks)
      (hc : LContract P f as none R) (hr : ∀ r xs, R r xs → ∃ s al, ResE τ o.dst r s al ∧ E { s, sh := ks, al })
end Go.DL
