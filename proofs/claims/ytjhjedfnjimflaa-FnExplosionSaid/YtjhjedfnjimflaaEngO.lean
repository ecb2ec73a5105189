/- Parts of an evaluator of Go code on plain data, proved sound for the model: lemmas alone, for every program; each states its own conditions. -/
import Derived.Test.YtjhjedfnjimflaaEngL
namespace Go.DL
open Go.RowKit

/-! ### The state as lists -/
structure St where
  s : List (Nat × S)
  c : List (Nat × Option Arr)
  sh : List Nat

def lkS (t : Nat) : List (Nat × S) → S
  | [] => .junk
  | (j, s) :: r => match Nat.beq t j with
    | true => s
    | false => lkS t r
def lkC (k : Nat) : List (Nat × Option Arr) → Option (Option Arr)
  | [] => none
  | (j, a) :: r => match Nat.beq k j with
    | true => some a
    | false => lkC k r
def memB (k : Nat) : List Nat → Bool
  | [] => false
  | j :: r => match Nat.beq k j with
    | true => true
    | false => memB k r
def tyOf (t : Nat) : Tys → Option Ty
  | [] => none
  | (j, ty) :: r => match Nat.beq t j with
    | true => some ty
    | false => tyOf t r

def St.ab (σ : St) : Ab :=
  { s := fun t => lkS t σ.s, c := fun k => match lkC k σ.c with | some (some A) => some A | _ => none, sh := fun k => memB k σ.sh, us := fun k => (lkC k σ.c).isSome }

theorem beq_iff (a b : Nat) : Nat.beq a b = true ↔ a = b := ⟨Nat.eq_of_beq_eq_true, fun h => by subst h; exact Nat.beq_refl a⟩
theorem beq_not (a b : Nat) : Nat.beq a b = false ↔ a ≠ b := by
  rw [← Bool.not_eq_true, beq_iff]

theorem lkS_cons (t j : Nat) (s : S) (r : List (Nat × S)) : lkS t ((j, s) :: r) = if t = j then s else lkS t r := by
  simp only [lkS]
  cases h : Nat.beq t j with
  | true => rw [if_pos ((beq_iff t j).1 h)]
  | false => rw [if_neg ((beq_not t j).1 h)]
theorem lkC_cons (t j : Nat) (s : Option Arr) (r : List (Nat × Option Arr)) : lkC t ((j, s) :: r) = if t = j then some s else lkC t r := by
  simp only [lkC]
  cases h : Nat.beq t j with
  | true => rw [if_pos ((beq_iff t j).1 h)]
  | false => rw [if_neg ((beq_not t j).1 h)]
theorem memB_iff (k : Nat) (l : List Nat) : memB k l = l.contains k := by
  induction l with
  | nil => rfl
  | cons j r ih =>
    simp only [memB, ih]
    cases h : Nat.beq k j with
    | true => simp [(beq_iff k j).1 h]
    | false => simp [(beq_not k j).1 h]
theorem tyOf_mem {t : Nat} {T : Tys} {ty : Ty} (h : tyOf t T = some ty) : (t, ty) ∈ T := by
  induction T with
  | nil => cases h
  | cons p r ih =>
    obtain ⟨j, a⟩ := p
    simp only [tyOf] at h
    cases hb : Nat.beq t j with
    | true =>
      rw [hb] at h
      have e : a = ty := by simpa using h
      rw [(beq_iff t j).1 hb, e]
      exact List.mem_cons_self
    | false => rw [hb] at h; exact List.mem_cons_of_mem _ (ih h)

def valS (σ : St) : Operand → S
  | .tmp t => lkS t σ.s
  | .const v => constS v
  | .global _ => .junk
  | .func f => .fn f

theorem valS_ab (σ : St) (x : Operand) : valS σ x = σ.ab.val x := by cases x <;> rfl

/-! ### Branches, obligations -/
def brM (b : Bool) (A B : Prop) : Prop :=
  match b with
  | true => A
  | false => B
theorem brM_intro {b : Bool} {A B : Prop} (h1 : b = true → A) (h2 : b = false → B) : brM b A B := by
  cases b
  · exact h2 rfl
  · exact h1 rfl

@[irreducible] def ltB (a b : Int) : Bool := decide (a < b)
@[irreducible] def leB (a b : Int) : Bool := decide (a ≤ b)
@[irreducible] def eqB (a b : Int) : Bool := a == b
@[irreducible] def strEq (a b : ByteArray) : Bool := a.toList == b.toList
@[irreducible] def strLt (a b : ByteArray) : Bool := Op.bytesLess a.toList b.toList
@[irreducible] def bEq (a b : Bool) : Bool := a == b

structure WrK (k : IntKind) (n : Int) (K : Int → Prop) : Prop where
  out : K (k.wrap n)
structure IxK (xs : List D) (j : Int) (K : D → Prop) : Prop where
  out : 0 ≤ j ∧ ∃ y, xs[j.toNat]? = some y ∧ K y
structure IxA (j : Int) (m : Nat) (K : Nat → Prop) : Prop where
  out : ∃ i : Nat, j = i ∧ i < m ∧ K i
structure StrK (s : ByteArray) (j : Int) (K : UInt8 → Prop) : Prop where
  out : 0 ≤ j ∧ ∃ b, s[j.toNat]? = some b ∧ K b
structure CallK (P : Program) (f : FuncId) (as : List A1) (K : Res → Prop) : Prop where
  out : ∃ r, Contract P f as r ∧ K r
structure LCallK (P : Program) (f : FuncId) (as : List A2) (A : Arr) (K : Res → List D → Prop) : Prop where
  out : ∃ r xs, LContract P f as (some A) (fun r' xs' => r' = r ∧ xs' = xs) ∧ K r xs
structure DCallK (P : Program) (f : FuncId) (as : List A2) (A : Option Arr) (K : Res → List D → Prop) : Prop where
  out : ∃ R, LContract P f as A R ∧ ∀ r xs, R r xs → K r xs
structure MCallK (P : Program) (f : FuncId) (as : List A2) (A : Arr) (K : Arr → List Value → Prop) : Prop where
  out : ∃ B rest, MContract P f as A B rest ∧ K B rest
structure NeedK (p K : Prop) : Prop where
  out : p ∧ K
structure MkK (a b : Int) (K : Nat → Prop) : Prop where
  out : ∃ m : Nat, a = m ∧ b = m ∧ m ≤ 34359738368 ∧ K m
structure AppK (xs : List D) (m : Nat) (ys : List D) (w : Nat) (K : Nat → List D → Prop) : Prop where
  out : ∃ n xs', n = m + ys.length ∧ xs' = xs.take m ++ ys ∧ n ≤ 34359738368 ∧ (∀ y ∈ ys, y.width = w) ∧ K n xs'
structure SlK (xs : List D) (w : Nat) (lo hi : Option Int) (K : List D → Prop) : Prop where
  out : ∃ l h : Nat, (match lo with | some a => a = l | none => l = 0) ∧ (match hi with | some a => a = h | none => h = xs.length) ∧ l ≤ h ∧ h ≤ xs.length ∧ (∀ y ∈ xs, y.width = w) ∧ ∃ zs, zs = (xs.take h).drop l ∧ K zs
structure SlA (m : Nat) (hi : Option Int) (K : Nat → Prop) : Prop where
  out : ∃ h : Nat, (match hi with | some a => a = h | none => h = m) ∧ h ≤ m ∧ K h

/-- the i-th of a list -/
def getK {α : Type} : List α → Nat → (α → Prop) → Prop
  | x :: _, 0, K => K x
  | _ :: r, i + 1, K => getK r i K
  | [], _, _ => False
theorem getK_iff {α : Type} {xs : List α} {i : Nat} {K : α → Prop} : getK xs i K ↔ ∃ y, xs[i]? = some y ∧ K y := by
  induction xs generalizing i with
  | nil => simp [getK]
  | cons x r ih =>
    cases i with
    | zero => simp [getK]
    | succ i => simpa [getK] using ih
theorem getK_intro {α : Type} {xs : List α} {i : Nat} {K : α → Prop} {y : α} (h : xs[i]? = some y) (hK : K y) : getK xs i K := getK_iff.2 ⟨y, h, hK⟩

def setK {α : Type} : List α → Nat → α → (List α → Prop) → Prop
  | _ :: r, 0, y, K => K (y :: r)
  | x :: r, i + 1, y, K => setK r i y (fun r' => K (x :: r'))
  | [], _, _, _ => False
theorem setK_iff {α : Type} {xs : List α} {i : Nat} {y : α} {K : List α → Prop} : setK xs i y K ↔ i < xs.length ∧ K (xs.set i y) := by
  induction xs generalizing i K with
  | nil => simp [setK]
  | cons x r ih =>
    cases i with
    | zero => simp [setK]
    | succ i => simp [setK, ih]
theorem setK_intro {α : Type} {xs : List α} {i : Nat} {y : α} {K : List α → Prop} (h : i < xs.length) {xs' : List α} (he : xs' = xs.set i y) (hK : K xs') : setK xs i y K := setK_iff.2 ⟨h, he ▸ hK⟩

def takeK {α : Type} : Nat → List α → (List α → Prop) → Prop
  | 0, _, K => K []
  | m + 1, x :: r, K => takeK m r (fun r' => K (x :: r'))
  | _ + 1, [], K => K []
theorem takeK_iff {α : Type} {m : Nat} {xs : List α} {K : List α → Prop} : takeK m xs K ↔ K (xs.take m) := by
  induction m generalizing xs K with
  | zero => simp [takeK]
  | succ m ih =>
    cases xs with
    | nil => simp [takeK]
    | cons x r => simp [takeK, ih]
theorem takeK_intro {α : Type} {m : Nat} {xs : List α} {K : List α → Prop} {xs' : List α} (h : xs' = xs.take m) (hK : K xs') : takeK m xs K := takeK_iff.2 (h ▸ hK)
theorem takeK_full {α : Type} {m : Nat} {xs : List α} {K : List α → Prop} (h : m = xs.length) (hK : K xs) : takeK m xs K := takeK_intro (by rw [h, List.take_length]) hK

theorem WrK_i64 {n : Int} {K : Int → Prop} (h1 : -9223372036854775808 ≤ n) (h2 : n ≤ 9223372036854775807) (hK : K n) : WrK .i64 n K := by
  refine ⟨?_⟩
  rw [IntKind.wrap_i64]
  have : (n + 9223372036854775808) % 18446744073709551616 - 9223372036854775808 = n := by omega
  rw [this]
  exact hK
theorem IxK_intro {xs : List D} {j : Int} {K : D → Prop} (i : Nat) (hj : j = i) {y : D} (h : xs[i]? = some y) (hK : K y) : IxK xs j K := by
  refine ⟨?_⟩
  subst hj
  exact ⟨by omega, y, by simpa using h, hK⟩
theorem IxA_intro {j : Int} {m : Nat} {K : Nat → Prop} (i : Nat) (hj : j = i) (h : i < m) (hK : K i) : IxA j m K := by
  refine ⟨?_⟩; exact ⟨i, hj, h, hK⟩
theorem StrK_intro {s : ByteArray} {j : Int} {K : UInt8 → Prop} (i : Nat) (hj : j = i) {b : UInt8} (h : s[i]? = some b) (hK : K b) : StrK s j K := by
  refine ⟨?_⟩
  subst hj
  exact ⟨by omega, b, by simpa using h, hK⟩
theorem CallK_intro {P : Program} {f : FuncId} {as : List A1} {r : Res} {K : Res → Prop} (h : Contract P f as r) (hK : K r) : CallK P f as K := by refine ⟨?_⟩; exact ⟨r, h, hK⟩
theorem LCallK_intro {P : Program} {f : FuncId} {as : List A2} {A : Arr} {r : Res} {xs : List D} {K : Res → List D → Prop} (h : LContract P f as (some A) (fun r' xs' => r' = r ∧ xs' = xs)) (hK : K r xs) : LCallK P f as A K := by refine ⟨?_⟩; exact ⟨r, xs, h, hK⟩
theorem MCallK_intro {P : Program} {f : FuncId} {as : List A2} {A B : Arr} {rest : List Value} {K : Arr → List Value → Prop} (h : MContract P f as A B rest) (hK : K B rest) : MCallK P f as A K := by refine ⟨?_⟩; exact ⟨B, rest, h, hK⟩
theorem DCallK_intro {P : Program} {f : FuncId} {as : List A2} {A : Option Arr} {R : Res → List D → Prop} {K : Res → List D → Prop} (h : LContract P f as A R) (hK : ∀ r xs, R r xs → K r xs) : DCallK P f as A K := by refine ⟨?_⟩; exact ⟨R, h, hK⟩
theorem WrK_any {k : IntKind} {n : Int} {K : Int → Prop} (hK : K (k.wrap n)) : WrK k n K := ⟨hK⟩
theorem NeedK_intro {p K : Prop} (h : p) (hK : K) : NeedK p K := by refine ⟨?_⟩; exact ⟨h, hK⟩
theorem MkK_intro {a b : Int} {K : Nat → Prop} (m : Nat) (h1 : a = m) (h2 : b = m) (h3 : m ≤ 34359738368) (hK : K m) : MkK a b K := by refine ⟨?_⟩; exact ⟨m, h1, h2, h3, hK⟩
theorem AppK_intro {xs : List D} {m : Nat} {ys : List D} {w : Nat} {K : Nat → List D → Prop} {n : Nat} {xs' : List D} (h1 : n = m + ys.length) (h2 : xs' = xs.take m ++ ys) (h3 : n ≤ 34359738368) (h4 : ∀ y ∈ ys, y.width = w) (hK : K n xs') :
    AppK xs m ys w K := by refine ⟨?_⟩; exact ⟨n, xs', h1, h2, h3, h4, hK⟩
theorem SlK_intro {xs : List D} {w : Nat} {lo hi : Option Int} {K : List D → Prop} (l h : Nat) (h1 : match lo with | some a => a = l | none => l = 0) (h2 : match hi with | some a => a = h | none => h = xs.length) (h3 : l ≤ h) (h4 : h ≤ xs.length)
    (h5 : ∀ y ∈ xs, y.width = w) {zs : List D} (h6 : zs = (xs.take h).drop l) (hK : K zs) : SlK xs w lo hi K := by refine ⟨?_⟩; exact ⟨l, h, h1, h2, h3, h4, h5, zs, h6, hK⟩
theorem SlA_intro {m : Nat} {hi : Option Int} {K : Nat → Prop} (h : Nat) (h1 : match hi with | some a => a = h | none => h = m) (h2 : h ≤ m) (hK : K h) : SlA m hi K := by refine ⟨?_⟩; exact ⟨h, h1, h2, hK⟩

/-! ### The evaluator: one operation -/
def forceS (s : S) (K : S → Prop) : Prop :=
  match s with
  | .junk => K .junk
  | .un => K .un
  | .nil => K .nil
  | .d x => K (.d x)
  | .el x => K (.el x)
  | .av k m => K (.av k m)
  | .ae k i => K (.ae k i)
  | .af k i f => K (.af k i f)
  | .fn f => K (.fn f)
  | .tup xs => K (.tup xs)
theorem forceS_eq (s : S) (K : S → Prop) : forceS s K = K s := by cases s <;> rfl

def putS (σ : St) (dst : Option Nat) (s : S) (K : St → Prop) : Prop :=
  match dst, σ with
  | some d, ⟨ss, c, sh⟩ => K ⟨(d, s) :: ss, c, sh⟩
  | none, σ => K σ

def toDS (σ : St) (s : S) (K : D → List Nat → Prop) : Prop :=
  match s with
  | .d x => K x []
  | .nil => K (.sl []) []
  | .av j m => match lkC j σ.c with
    | some (some A) => takeK m A.xs (fun xs => K (.sl xs) [j])
    | _ => False
  | _ => False

def argK (σ : St) (s : S) (K : A1 → List Nat → Prop) : Prop :=
  match s with
  | .fn f => K (.fn f) []
  | .d x => K (.d x) []
  | s => toDS σ s fun x ks => K (.d x) ks
def argsK (σ : St) : List Operand → (List A1 → List Nat → Prop) → Prop
  | [], K => K [] []
  | x :: r, K => argK σ (valS σ x) fun a ks => argsK σ r fun as ks' => K (a :: as) (ks ++ ks')

def partsK (σ : St) : List (Nat × Operand) → (List D → List Nat → Prop) → Prop
  | [], K => K [] []
  | (_, x) :: r, K => toDS σ (valS σ x) fun a ks => partsK σ r fun as ks' => K (a :: as) (ks ++ ks')
def setsK : List (Nat × Operand) → List D → List D → (List D → Prop) → Prop
  | (i, _) :: ps, d :: ds, xs, K => setK xs i d fun xs' => setsK ps ds xs' K
  | [], _, xs, K => K xs
  | _, [], xs, K => K xs

def zeroF (f : F) (K : D → Prop) : Prop :=
  match f with
  | .int => K (.sc (.int .i64 0)) | .bool => K (.sc (.bool false)) | .str => K (.sc (.string ⟨#[]⟩)) | .sl => K (.sl [])
def zerosF : List F → (List D → Prop) → Prop
  | [], K => K []
  | f :: r, K => zeroF f fun d => zerosF r fun ds => K (d :: ds)
def zeroTy (ty : Ty) (K : D → Prop) : Prop :=
  match ty with
  | .int => K (.sc (.int .i64 0)) | .u8 => K (.sc (.int .u8 0)) | .bool => K (.sc (.bool false)) | .str => K (.sc (.string ⟨#[]⟩)) | .sl _ => K (.sl [])
  | .st fs => zerosF fs fun ds => K (.agg ds)

theorem zerosF_eq (fs : List F) (K : List D → Prop) : zerosF fs K = K (fs.map F.zeroD) := by
  induction fs generalizing K with
  | nil => rfl
  | cons f r ih => cases f <;> simp only [zerosF, zeroF, ih] <;> rfl
theorem zeroTy_eq (ty : Ty) (K : D → Prop) : zeroTy ty K = K ty.zeroD := by
  cases ty with
  | st fs => simp only [zeroTy, zerosF_eq]; rfl
  | _ => rfl

def fitK (ty : Ty) (y : D) (K : Prop) : Prop :=
  match ty, y with
  | .st fs, .agg gs => (match Nat.beq fs.length gs.length with | true => K | false => False)
  | .st _, _ => False
  | _, .agg _ => False
  | _, _ => K
theorem fitK_iff {ty : Ty} {y : D} {K : Prop} : fitK ty y K ↔ LoadFit ty y ∧ K := by
  cases ty <;> cases y <;> simp [fitK, LoadFit]
  rename_i fs gs
  cases h : Nat.beq fs.length gs.length with
  | true => simp [(beq_iff _ _).1 h]
  | false => simp [(beq_not _ _).1 h]

def beqK (a b : Nat) (K : Prop) : Prop :=
  match Nat.beq a b with
  | true => K
  | false => False
theorem beqK_iff {a b : Nat} {K : Prop} : beqK a b K ↔ a = b ∧ K := by
  unfold beqK
  cases h : Nat.beq a b with
  | true => simp [(beq_iff _ _).1 h]
  | false => simp [(beq_not _ _).1 h]

/-- equality of structs, field by field -/
def eq1K (f : F) (a b : D) (K : Bool → Prop) : Prop :=
  match f, a, b with
  | .int, .sc (.int .i64 x), .sc (.int .i64 y) => K (eqB x y)
  | .bool, .sc (.bool x), .sc (.bool y) => K (bEq x y)
  | .str, .sc (.string x), .sc (.string y) => K (strEq x y)
  | _, _, _ => False
def eqsK : List F → List D → List D → (Bool → Prop) → Prop
  | [], fs, gs, K => (match fs, gs with | [], [] => K true | _, _ => False)
  | f :: Fs, fs, gs, K => (match fs, gs with
    | a :: fs, b :: gs => eq1K f a b fun r1 => eqsK Fs fs gs fun r => K (r1 && r)
    | _, _ => False)

theorem eq1K_spec {f : F} {a b : D} {K : Bool → Prop} (h : eq1K f a b K) : ∃ r1, K r1 ∧ ∀ {Fs : List F} {fs gs : List D} {r : Bool}, EqFs Fs fs gs r → EqFs (f :: Fs) (a :: fs) (b :: gs) (r1 && r) := by
  unfold eq1K at h
  split at h
  · exact ⟨_, h, fun hr => by unfold eqB; exact .int _ _ hr⟩
  · exact ⟨_, h, fun hr => by unfold bEq; exact .bool _ _ hr⟩
  · exact ⟨_, h, fun hr => by unfold strEq; exact .str _ _ hr⟩
  · exact h.elim

theorem eqsK_spec {Fs : List F} : ∀ {fs gs : List D} {K : Bool → Prop}, eqsK Fs fs gs K → ∃ b, EqFs Fs fs gs b ∧ K b := by
  induction Fs with
  | nil =>
    intro fs gs K h
    cases fs <;> cases gs <;> first | exact ⟨true, .nil, h⟩ | exact h.elim
  | cons f Fs ih =>
    intro fs gs K h
    cases fs with
    | nil => exact h.elim
    | cons a fs =>
      cases gs with
      | nil => exact h.elim
      | cons b gs =>
        obtain ⟨r1, h1, h2⟩ := eq1K_spec (K := fun r1 => eqsK Fs fs gs fun r => K (r1 && r)) h
        obtain ⟨r, hr, hK⟩ := ih h1
        exact ⟨_, h2 hr, hK⟩
end Go.DL

namespace Go.DL
open Go.RowKit

/-- A new array in a slot of its own. -/
def newK (σ : St) (dst : Option Nat) (ks : List Nat) (s : Nat → S) (A : Arr) (K : St → Prop) : Prop :=
  match dst, σ with
  | some d, ⟨ss, c, sh⟩ => (match lkC d c with
    | none => K ⟨(d, s d) :: ss, (d, some A) :: c, ks ++ sh⟩
    | some _ => False)
  | none, _ => False

def shareS (σ : St) (ks : List Nat) : St := ⟨σ.s, σ.c, ks ++ σ.sh⟩
def putSh (σ : St) (ks : List Nat) (dst : Option Nat) (s : S) (K : St → Prop) : Prop :=
  match dst, σ with
  | some d, ⟨ss, c, sh⟩ => K ⟨(d, s) :: ss, c, ks ++ sh⟩
  | none, ⟨ss, c, sh⟩ => K ⟨ss, c, ks ++ sh⟩

@[irreducible] def andI (k : IntKind) (a b : Int) : Int := k.wrap (BitVec.ofInt k.bits a &&& BitVec.ofInt k.bits b).toNat
@[irreducible] def xorI (k : IntKind) (a b : Int) : Int := k.wrap (BitVec.ofInt k.bits a ^^^ BitVec.ofInt k.bits b).toNat
@[irreducible] def shrI (k : IntKind) (a b : Int) : Int := a.fdiv (2 ^ min b.toNat k.bits)
/-- binary operations -/
def binI (op : BinOp) (k : IntKind) (a b : Int) (K : Value → Prop) : Prop :=
  match op with
  | .add => WrK k (a + b) fun n => K (.int k n)
  | .sub => WrK k (a - b) fun n => K (.int k n)
  | .mul => WrK k (a * b) fun n => K (.int k n)
  | .and => K (.int k (andI k a b))
  | .xor => K (.int k (xorI k a b))
  | .quo => NeedK (b ≠ 0) (WrK k (a.tdiv b) fun n => K (.int k n))
  | .rem => NeedK (b ≠ 0) (K (.int k (a.tmod b)))
  | .eql => K (.bool (eqB a b))
  | .neq => K (.bool (!eqB a b))
  | .lss => K (.bool (ltB a b))
  | .leq => K (.bool (leB a b))
  | .gtr => K (.bool (ltB b a))
  | .geq => K (.bool (leB b a))
  | _ => False
def binS (op : BinOp) (a b : ByteArray) (K : Value → Prop) : Prop :=
  match op with
  | .eql => K (.bool (strEq a b))
  | .neq => K (.bool (!strEq a b))
  | .lss => K (.bool (strLt a b))
  | .geq => K (.bool (!strLt a b))
  | .leq => K (.bool (strLt a b || strEq a b))
  | .gtr => K (.bool (!(strLt a b || strEq a b)))
  | .add => NeedK (a.size + b.size ≤ 9223372036854775807) (K (.string (a ++ b)))
  | _ => False
def binB (op : BinOp) (a b : Bool) (K : Value → Prop) : Prop :=
  match op with
  | .eql => K (.bool (bEq a b))
  | .neq => K (.bool (!bEq a b))
  | _ => False
def binK (T : Tys) (op : BinOp) (t : TypeId) (x y : D) (K : D → Prop) : Prop :=
  match x, y with
  | .sc (.int .i64 a), .sc (.int .i64 b) => binI op .i64 a b fun v => K (.sc v)
  | .sc (.int .u8 a), .sc (.int .u8 b) => binI op .u8 a b fun v => K (.sc v)
  | .sc (.int .i64 a), .sc (.int .u64 b) => (match op with
    | .shr => NeedK (0 ≤ b) (K (.sc (.int .i64 (shrI .i64 a b))))
    | _ => False)
  | .sc (.string a), .sc (.string b) => binS op a b fun v => K (.sc v)
  | .sc (.bool a), .sc (.bool b) => (match tyOf t T with
    | some .bool => binB op a b fun v => K (.sc v)
    | _ => False)
  | .agg fs, .agg gs => (match tyOf t T with
    | some (.st Fs) => (match op with
      | .eql => eqsK Fs fs gs fun b => K (.sc (.bool b))
      | .neq => eqsK Fs fs gs fun b => K (.sc (.bool (!b)))
      | _ => False)
    | _ => False)
  | _, _ => False

def unK (op : UnOp) (x : D) (K : D → Prop) : Prop :=
  match op, x with
  | .not, .sc (.bool b) => K (.sc (.bool (!b)))
  | .neg, .sc (.int .i64 a) => WrK .i64 (0 - a) fun n => K (.sc (.int .i64 n))
  | _, _ => False

def intOf? (s : S) (K : Int → Prop) : Prop :=
  match s with
  | .d (.sc (.int .i64 n)) => K n
  | _ => False

def contK (σ : St) (s : S) (K : List D → Prop) : Prop :=
  match s with
  | .d (.sl xs) => K xs
  | .nil => K []
  | .av j m => match lkC j σ.c with
    | some (some A) => takeK m A.xs K
    | _ => False
  | _ => False

def u8Of : D → Option Int
  | .sc (.int .u8 n) => some n
  | _ => none
/-- the bytes of a slice, as a string -/
def bytesK : List D → ByteArray → (ByteArray → Prop) → Prop
  | [], acc, K => K acc
  | y :: r, acc, K => (match u8Of y with
    | some n => bytesK r (acc.push (UInt8.ofNat n.toNat)) K
    | none => False)
def mapD : List D → (List T1 → Prop) → Prop
  | [], K => K []
  | x :: r, K => mapD r fun l => K (.d x :: l)
def allSc : List D → Bool
  | [] => true
  | .sc _ :: r => allSc r
  | _ :: _ => false

/-- what a call hands back -/
def resK (σ : St) (dst : Option Nat) (ks : List Nat) (r : Res) (K : St → Prop) : Prop :=
  match r with
  | .one (.d x) => (match x with
    | .sc v => putS σ dst (.d (.sc v)) K
    | _ => putSh σ ks dst (.d x) K)
  | .one (.own ⟨e, sz, xs⟩) => newK σ dst ks (fun d => .av d xs.length) ⟨e, sz, xs⟩ K
  | .one (.ptr ⟨e, sz, xs⟩) => newK σ dst ks (fun d => .ae d 0) ⟨e, sz, xs⟩ K
  | .tup (.ptr _) _ => False
  | .tup (.d x) rest => (match x, allSc rest with
    | .sc v, true => mapD rest fun l => putS σ dst (.tup (.d (.sc v) :: l)) K
    | x, _ => mapD rest fun l => putSh σ ks dst (.tup (.d x :: l)) K)
  | .tup (.own ⟨e, sz, xs⟩) rest => mapD rest fun l => newK σ dst ks (fun d => .tup (.av d xs.length :: l)) ⟨e, sz, xs⟩ K
  | .unit => False
  | .one (.fr ⟨e, sz, xs⟩) => newK σ dst [] (fun d => .av d xs.length) ⟨e, sz, xs⟩ K
  | .tup (.fr ⟨e, sz, xs⟩) rest => (match allSc rest with
    | true => mapD rest fun l => newK σ dst [] (fun d => .tup (.av d xs.length :: l)) ⟨e, sz, xs⟩ K
    | false => False)

/-! ### Calls to which an array is lent -/
def hasAe (σ : St) : List Operand → Bool
  | [] => false
  | x :: r => (match valS σ x with
    | .ae _ _ => true
    | _ => hasAe σ r)
/-- p: a pointer is lent, and slices are handed on as data. -/
def largsK (σ : St) (p : Bool) : List Operand → Option Nat → (List A2 → List Nat → Option Nat → Prop) → Prop
  | [], l, K => K [] [] l
  | x :: r, l, K => (match valS σ x with
    | .fn f => largsK σ p r l fun as ks l' => K (.fn f :: as) ks l'
    | .ae k 0 => (match l with
      | none => largsK σ p r (some k) fun as ks l' => K (.lp :: as) ks l'
      | some _ => False)
    | .av k m => (match p, l with
      | false, none => (match lkC k σ.c with
        | some (some A) => NeedK (m = A.xs.length) (largsK σ p r (some k) fun as ks l' => K (.lv :: as) ks l')
        | _ => False)
      | _, _ => toDS σ (.av k m) fun d ks => largsK σ p r l fun as ks' l' => K (.d d :: as) (ks ++ ks') l')
    | .d x => largsK σ p r l fun as ks l' => K (.d x :: as) ks l'
    | .nil => largsK σ p r l fun as ks l' => K (.d (.sl []) :: as) ks l'
    | _ => False)
def resPutK (σ : St) (dst : Option Nat) (ks : List Nat) (r : Res) (K : St → Prop) : Prop :=
  match r with
  | .one (.d x) => putSh σ ks dst (.d x) K
  | .one (.own ⟨e, sz, xs⟩) => newK σ dst ks (fun d => .av d xs.length) ⟨e, sz, xs⟩ K
  | .one (.ptr ⟨e, sz, xs⟩) => newK σ dst ks (fun d => .ae d 0) ⟨e, sz, xs⟩ K
  | .tup (.d x) rest => mapD rest fun l => putSh σ ks dst (.tup (.d x :: l)) K
  | .tup (.own ⟨e, sz, xs⟩) rest => mapD rest fun l => newK σ dst ks (fun d => .tup (.av d xs.length :: l)) ⟨e, sz, xs⟩ K
  | .tup (.ptr _) _ => False
  | .unit => putSh σ ks dst .junk K
  | .one (.fr _) => False
  | .tup (.fr _) _ => False
def lcallK (P : Program) (σ : St) (dst : Option Nat) (f : FuncId) (args : List Operand) (K : St → Prop) : Prop :=
  largsK σ (hasAe σ args) args none fun as ks l => (match l with
    | some k => (match lkC k σ.c, memB k (ks ++ σ.sh) with
      | some (some ⟨e, sz, xs⟩), false => LCallK P f as ⟨e, sz, xs⟩ fun r xs' => resPutK ⟨σ.s, (k, some ⟨e, sz, xs'⟩) :: σ.c, σ.sh⟩ dst ks r K
      | _, _ => False)
    | none => False)
def dcallK (P : Program) (σ : St) (dst : Option Nat) (f : FuncId) (args : List Operand) (K : St → Prop) : Prop :=
  largsK σ (hasAe σ args) args none fun as ks l => (match l with
    | some k => (match lkC k σ.c, memB k (ks ++ σ.sh) with
      | some (some ⟨e, sz, xs⟩), false => DCallK P f as (some ⟨e, sz, xs⟩) fun r xs' => resPutK ⟨σ.s, (k, some ⟨e, sz, xs'⟩) :: σ.c, σ.sh⟩ dst ks r K
      | _, _ => False)
    | none => DCallK P f as none fun r _ => resPutK σ dst ks r K)

/-- The last argument is an own array that is given away. -/
def margsK (σ : St) : List Operand → (List A2 → List Nat → Nat → Arr → Prop) → Prop
  | [], _ => False
  | [x], K => (match valS σ x with
    | .av k m => (match lkC k σ.c with
      | some (some ⟨e, sz, xs⟩) => NeedK (m = xs.length) (K [.lv] [] k ⟨e, sz, xs⟩)
      | _ => False)
    | _ => False)
  | x :: y :: r, K => (match valS σ x with
    | .fn f => margsK σ (y :: r) fun as ks k A => K (.fn f :: as) ks k A
    | .av k m => toDS σ (.av k m) fun d ks => margsK σ (y :: r) fun as ks' j A => K (.d d :: as) (ks ++ ks') j A
    | .d x => margsK σ (y :: r) fun as ks k A => K (.d x :: as) ks k A
    | .nil => margsK σ (y :: r) fun as ks k A => K (.d (.sl []) :: as) ks k A
    | _ => False)
def mcallK (P : Program) (σ : St) (dst : Option Nat) (f : FuncId) (args : List Operand) (K : St → Prop) : Prop :=
  margsK σ args fun as ks k A => (match memB k (ks ++ σ.sh) with
    | false => MCallK P f as A fun B rest => (match B with
      | ⟨e, sz, xs⟩ => mapD (rest.map .sc) fun l => newK ⟨σ.s, (k, none) :: σ.c, σ.sh⟩ dst ks (fun d => .tup (.av d xs.length :: l)) ⟨e, sz, xs⟩ K)
    | true => False)

def callK (P : Program) (σ : St) (dst : Option Nat) (fx : S) (args : List Operand) (K : St → Prop) : Prop :=
  match fx with
  | .fn f => argsK σ args fun as ks => CallK P f as fun r => resK σ dst ks r K
  | _ => False

def lenK (T : Tys) (σ : St) (t : TypeId) (s : S) (K : Int → Prop) : Prop :=
  match s, tyOf t T with
  | .d (.sl xs), some (.sl _) => K xs.length
  | .nil, some (.sl _) => K 0
  | .d (.sc (.string b)), some .str => K b.size
  | .av _ m, some (.sl _) => K m
  | _, _ => False

def appFin (σ : St) (dst : Option Nat) (k n : Nat) (A : Arr) (K : St → Prop) : Prop :=
  match dst, σ with
  | some d, ⟨ss, c, sh⟩ => (match lkC d c, memB d sh with
    | none, false => K ⟨(d, .av d n) :: ss, (d, some A) :: (k, none) :: c, sh⟩
    | _, _ => False)
  | none, _ => False

def appK (T : Tys) (σ : St) (dst : Option Nat) (t : TypeId) (x y : S) (K : St → Prop) : Prop :=
  match tyOf t T with
  | some (.sl e) => (match tyOf e T with
    | some ety => (match x with
      | .av k m => (match lkC k σ.c, memB k σ.sh with
        | some (some ⟨e', sz, xs⟩), false => beqK e' e (beqK ety.width sz (contK σ y fun ys => AppK xs m ys ety.width fun n xs' =>
            appFin σ dst k n ⟨e', sz, xs'⟩ K))
        | _, _ => False)
      | .nil => (match ety.width with
        | 0 => False
        | _ + 1 => contK σ y fun ys => AppK [] 0 ys ety.width fun n xs' => newK σ dst [] (fun d => .av d n) ⟨e, ety.width, xs'⟩ K)
      | _ => False)
    | none => False)
  | _ => False

/-- One operation. -/
def dOp (P : Program) (T : Tys) (R : List Nat) (o : Oper) (σ : St) (K : St → Prop) : Prop :=
  match o.op with
  | .move x => forceS (valS σ x) fun s => putS σ o.dst s K
  | .assign x => forceS (valS σ x) fun s => putS σ o.dst s K
  | .pick c a b => (match valS σ c with
    | .d (.sc (.bool t)) => brM t (forceS (valS σ a) fun s => putS σ o.dst s K) (forceS (valS σ b) fun s => putS σ o.dst s K)
    | _ => False)
  | .binOp op t x y _ => (match valS σ x, valS σ y with
    | .d dx, .d dy => binK T op t dx dy fun r => putS σ o.dst (.d r) K
    | _, _ => False)
  | .unOp op _ x => (match valS σ x with
    | .d dx => unK op dx fun r => putS σ o.dst (.d r) K
    | _ => False)
  | .alloc t => (match tyOf t T with
    | some ty => (match ty.width with
      | 0 => False
      | _ + 1 => zeroTy ty fun z => newK σ o.dst [] (fun d => .ae d 0) ⟨t, ty.width, [z]⟩ K)
    | none => False)
  | .box t x => toDS σ (valS σ x) fun y ks => (match y.width with
    | 0 => False
    | _ + 1 => newK σ o.dst ks (fun d => .ae d 0) ⟨t, y.width, [y]⟩ K)
  | .build t parts => (match tyOf t T with
    | some (.st Fs) => partsK σ parts.toList fun ds ks => (match ds.all (·.isCell) with
      | true => zerosF Fs fun zs => setsK parts.toList ds zs fun xs => putSh σ ks o.dst (.d (.agg xs)) K
      | false => False)
    | _ => False)
  | .buildSlice t len parts => (match tyOf t T with
    | some (.sl e) => (match tyOf e T with
      | some ety => partsK σ parts.toList fun ds ks => (match ds.all (fun d => Nat.beq d.width ety.width), ety.width, Nat.ble (len * ety.width) 16777216 with
        | true, _ + 1, true => zeroTy ety fun z => setsK parts.toList ds (List.replicate len z) fun xs => newK σ o.dst ks (fun d => .av d len) ⟨e, ety.width, xs⟩ K
        | _, _, _ => False)
      | none => False)
    | _ => False)
  | .makeSlice t x y => (match tyOf t T with
    | some (.sl e) => (match tyOf e T with
      | some ety => intOf? (valS σ x) fun a => intOf? (valS σ y) fun b => MkK a b fun m => (match ety.width with
        | 0 => False
        | _ + 1 => zeroTy ety fun z => newK σ o.dst [] (fun d => .av d m) ⟨e, ety.width, List.replicate m z⟩ K)
      | none => False)
    | _ => False)
  | .load t x => (match tyOf t T with
    | some ty => (match valS σ x with
      | .el y => fitK ty y (putS σ o.dst (.d y) K)
      | .ae k i => (match lkC k σ.c with
        | some (some A) => getK A.xs i fun y => fitK ty y (putS σ o.dst (.d y) K)
        | _ => False)
      | .af k i f => (match lkC k σ.c with
        | some (some A) => getK A.xs i fun y => (match y with
          | .agg fs => getK fs f fun z => fitK ty z (putS σ o.dst (.d z) K)
          | _ => False)
        | _ => False)
      | _ => False)
    | none => False)
  | .store t x y => (match tyOf t T with
    | some ty => (match valS σ x with
      | .ae k i => toDS σ (valS σ y) fun z ks => (match lkC k σ.c, memB k (ks ++ σ.sh) with
        | some (some ⟨e, sz, xs⟩), false => beqK z.width sz (beqK ty.width sz (setK xs i z fun xs' => putSh ⟨σ.s, (k, some ⟨e, sz, xs'⟩) :: σ.c, σ.sh⟩ ks o.dst .un K))
        | _, _ => False)
      | .af k i f => toDS σ (valS σ y) fun z ks => (match lkC k σ.c, memB k (ks ++ σ.sh), z.isCell with
        | some (some ⟨e, sz, xs⟩), false, true => beqK ty.width 1 (getK xs i fun w => (match w with
          | .agg fs => setK fs f z fun fs' => setK xs i (.agg fs') fun xs' => putSh ⟨σ.s, (k, some ⟨e, sz, xs'⟩) :: σ.c, σ.sh⟩ ks o.dst .un K
          | _ => False))
        | _, _, _ => False)
      | _ => False)
    | none => False)
  | .fieldAddr t x f => (match tyOf t T with
    | some (.st Fs) => (match valS σ x with
      | .el (.agg fs) => beqK Fs.length fs.length (getK fs f fun z => putS σ o.dst (.el z) K)
      | .ae k i => (match lkC k σ.c, Nat.blt f Fs.length with
        | some (some _), true => putS σ o.dst (.af k i f) K
        | _, _ => False)
      | _ => False)
    | _ => False)
  | .field t x f => (match tyOf t T with
    | some (.st Fs) => (match valS σ x with
      | .d (.agg fs) => beqK Fs.length fs.length (getK fs f fun z => putS σ o.dst (.d z) K)
      | _ => False)
    | _ => False)
  | .indexAddr t x ix => (match tyOf t T with
    | some (.sl e) => (match tyOf e T with
      | some ety => (match valS σ x with
        | .d (.sl xs) => intOf? (valS σ ix) fun j => IxK xs j fun y => beqK y.width ety.width (putS σ o.dst (.el y) K)
        | .av k m => (match lkC k σ.c with
          | some (some A) => intOf? (valS σ ix) fun j => beqK ety.width A.sz (IxA j m fun i => putS σ o.dst (.ae k i) K)
          | _ => False)
        | _ => False)
      | none => False)
    | _ => False)
  | .index t x ix => (match tyOf t T with
    | some .str => (match valS σ x with
      | .d (.sc (.string s)) => intOf? (valS σ ix) fun j => StrK s j fun b => putS σ o.dst (.d (.sc (.int .u8 b.toNat))) K
      | _ => False)
    | _ => False)
  | .extract x i => (match valS σ x with
    | .tup xs => getK xs i fun r => (match r with
      | .d y => putS σ o.dst (.d y) K
      | .av k m => putS σ o.dst (.av k m) K)
    | _ => False)
  | .makeFunc fn first captured => (match fn, first.toList, captured.toList with
    | .func f, [], [] => putS σ o.dst (.fn f) K
    | _, _, _ => False)
  | .call { callee := .value fx, args, .. } => (match fx with
    | .func f => (match memB (100000 + f) R with
      | true => lcallK P σ o.dst f args.toList K
      | false => callK P σ o.dst (valS σ fx) args.toList K)
    | _ => callK P σ o.dst (valS σ fx) args.toList K)
  | .nilCheck x => (match valS σ x with
    | .ae k i => (match lkC k σ.c with
      | some (some _) => putS σ o.dst (.ae k i) K
      | _ => False)
    | _ => False)
  | .convert src dst x => (match tyOf src T, tyOf dst T, valS σ x with
    | some _, some .int, .d (.sc (.int _ m)) => WrK .i64 m fun n => putS σ o.dst (.d (.sc (.int .i64 n))) K
    | some _, some .u8, .d (.sc (.int _ m)) => WrK .u8 m fun n => putS σ o.dst (.d (.sc (.int .u8 n))) K
    | some (.sl e), some .str, s => (match tyOf e T with
      | some .u8 => contK σ s fun ys => bytesK ys ByteArray.empty fun b => putS σ o.dst (.d (.sc (.string b))) K
      | _ => False)
    | _, _, _ => False)
  | .call { callee := .builtin .len, args, argTypes } => (match args.toList, argTypes.toList with
    | [x], [t] => lenK T σ t (valS σ x) fun n => putS σ o.dst (.d (.sc (.int .i64 n))) K
    | _, _ => False)
  | .call { callee := .builtin .min, args, .. } => (match args.toList with
    | [x, y] => intOf? (valS σ x) fun a => intOf? (valS σ y) fun b => putS σ o.dst (.d (.sc (.int .i64 (Min.min a b)))) K
    | _ => False)
  | .call { callee := .builtin .max, args, .. } => (match args.toList with
    | [x, y] => intOf? (valS σ x) fun a => intOf? (valS σ y) fun b => putS σ o.dst (.d (.sc (.int .i64 (Max.max a b)))) K
    | _ => False)
  | .call { callee := .builtin .append, args, argTypes } => (match args.toList, argTypes.toList with
    | [x, y], [t, t'] => beqK t t' (appK T σ o.dst t (valS σ x) (valS σ y) K)
    | _, _ => False)
  | .slice t x lo hi mx => (match mx, tyOf t T with
    | none, some (.sl e) => (match tyOf e T with
      | some ety => (match valS σ x with
        | .d (.sl xs) => (match lo, hi with
          | none, none => SlK xs ety.width none none fun zs => putS σ o.dst (.d (.sl zs)) K
          | some l, none => intOf? (valS σ l) fun a => SlK xs ety.width (some a) none fun zs => putS σ o.dst (.d (.sl zs)) K
          | none, some h => intOf? (valS σ h) fun b => SlK xs ety.width none (some b) fun zs => putS σ o.dst (.d (.sl zs)) K
          | some l, some h => intOf? (valS σ l) fun a => intOf? (valS σ h) fun b => SlK xs ety.width (some a) (some b) fun zs => putS σ o.dst (.d (.sl zs)) K)
        | .av k m => (match lkC k σ.c, lo, hi with
          | some (some _), none, some h => intOf? (valS σ h) fun b => SlA m (some b) fun n => putS σ o.dst (.av k n) K
          | _, _, _ => False)
        | _ => False)
      | none => False)
    | _, _ => False)
  | _ => False
/-- One operation, where calls may have results that are known by a property. -/
def dOpE (P : Program) (T : Tys) (R : List Nat) (o : Oper) (σ : St) (K : St → Prop) : Prop :=
  match o.op with
  | .call { callee := .value (.func f), args, .. } => (match memB (200000 + f) R with
    | true => dcallK P σ o.dst f args.toList K
    | false => (match memB (300000 + f) R with
      | true => mcallK P σ o.dst f args.toList K
      | false => dOp P T R o σ K))
  | _ => dOp P T R o σ K
end Go.DL

namespace Go.DL
open Go.RowKit
section
variable {P : Program} {T : Tys} {R : List Nat}

theorem binI_spec {op : BinOp} {k : IntKind} {a b : Int} {K : Value → Prop} (t : TypeId) (h : binI op k a b K) : ∃ r, BinOK P op t (.int k a) (.int k b) r ∧ K r := by
  cases op <;> simp only [binI] at h
  case add => replace h := h.out; exact ⟨_, ⟨rfl, fun x y w => by simp [eqGuard_at_int, binOp_add, Op.intArith]⟩, h⟩
  case sub => replace h := h.out; exact ⟨_, ⟨rfl, fun x y w => by simp [eqGuard_at_int, binOp_sub, Op.intArith]⟩, h⟩
  case mul => replace h := h.out; exact ⟨_, ⟨rfl, fun x y w => by simp [eqGuard_at_int, binOp_mul, Op.intArith]⟩, h⟩
  case and => exact ⟨_, ⟨rfl, fun x y w => by simp [eqGuard_at_int, binOp_and, Op.intBits, andI]⟩, h⟩
  case xor => exact ⟨_, ⟨rfl, fun x y w => by simp [eqGuard_at_int, binOp_xor, Op.intBits, xorI]⟩, h⟩
  case quo => obtain ⟨h1, h2⟩ := h.out; exact ⟨_, ⟨rfl, fun x y w => by simp [eqGuard_at_int, binOp_quo, Op.intDiv, h1]⟩, h2.out⟩
  case rem => replace h := h.out; exact ⟨_, ⟨rfl, fun x y w => by simp [eqGuard_at_int, binOp_rem, Op.intDiv, h.1]⟩, h.2⟩
  case eql => exact ⟨_, ⟨rfl, fun x y w => by simp [eqGuard_at_int, binOp_eql, eqB]⟩, h⟩
  case neq => exact ⟨_, ⟨rfl, fun x y w => by simp [eqGuard_at_int, binOp_neq, eqB, bne]⟩, h⟩
  case lss => exact ⟨_, ⟨rfl, fun x y w => by simp [eqGuard_at_int, binOp_lss, ltB]⟩, h⟩
  case leq => exact ⟨_, ⟨rfl, fun x y w => by simp [eqGuard_at_int, binOp_leq, leB]⟩, h⟩
  case gtr => exact ⟨_, ⟨rfl, fun x y w => by simp [eqGuard_at_int, binOp_gtr, ltB]⟩, h⟩
  case geq => exact ⟨_, ⟨rfl, fun x y w => by simp [eqGuard_at_int, binOp_geq, leB]⟩, h⟩

theorem binS_spec {op : BinOp} {a b : ByteArray} {K : Value → Prop} (t : TypeId) (h : binS op a b K) : ∃ r, BinOK P op t (.string a) (.string b) r ∧ K r := by
  cases op <;> simp only [binS] at h
  case add =>
    replace h := h.out
    refine ⟨_, ⟨rfl, fun x y w => ?_⟩, h.2⟩
    have : ¬ ((9223372036854775807 : Int) < (a.size : Int) + (b.size : Int)) := by omega
    simp [eqGuard_at_string, binOp, Op.stringOp, this]
  all_goals exact ⟨_, ⟨rfl, fun x y w => by simp [eqGuard_at_string, binOp, Op.stringOp, strEq, strLt]⟩, h⟩

theorem binB_spec {op : BinOp} {a b : Bool} {K : Value → Prop} {t : TypeId} (ht : P.underlying t = some .bool) (h : binB op a b K) : ∃ r, BinOK P op t (.bool a) (.bool b) r ∧ K r := by
  cases op <;> simp only [binB] at h
  case eql => exact ⟨_, ⟨rfl, fun x y w => by simp [eqGuard_at_bool, binOp, Op.equal, Op.maxDepth, run_equalIn_bool' w 9999 t a b ht, bEq]⟩, h⟩
  case neq => exact ⟨_, ⟨rfl, fun x y w => by simp [eqGuard_at_bool, binOp, Op.equal, Op.maxDepth, run_equalIn_bool' w 9999 t a b ht, bEq]⟩, h⟩

/-- What an evaluated operation has done. -/
def Out (P : Program) (T : Tys) (R : List Nat) (o : Oper) (σ : St) (K : St → Prop) : Prop := ∃ e σ', (TEff P T o σ.ab e ∨ WEff P T R o σ.ab e) ∧ σ'.ab = σ.ab.eff o.dst e ∧ K σ'

theorem ab_cons (σ : St) (d : Nat) (s : S) (ks : List Nat) : (⟨(d, s) :: σ.s, σ.c, ks ++ σ.sh⟩ : St).ab = (σ.ab.shares ks).put (some d) s := by
  refine Ab.ext' (funext fun t => ?_) ?_ (funext fun k => ?_) ?_
  · rw [put_s, (shares_c σ.ab ks).2.2]
    simp only [St.ab, lkS_cons]
    by_cases h : t = d
    · subst h; simp
    · simp [h, Ne.symm h]
  · rw [put_c, (shares_c σ.ab ks).1]; rfl
  · rw [put_sh, shares_sh]
    simp only [St.ab, memB_iff]
    rw [Bool.or_comm]
    simp
  · rw [put_us, (shares_c σ.ab ks).2.1]; rfl

theorem putS_out {o : Oper} {σ : St} {s : S} {K : St → Prop} (h : putS σ o.dst s K) (he : TEff P T o σ.ab { s }) : Out P T R o σ K := by
  unfold putS at h
  split at h
  · rename_i d ss c sh hd
    refine ⟨_, _, .inl he, ?_, h⟩
    have := ab_cons ⟨ss, c, sh⟩ d s []
    rw [hd]
    exact this
  · rename_i hd
    refine ⟨_, _, .inl he, ?_, h⟩
    rw [hd]; rfl

theorem ab_share (σ : St) (ks : List Nat) : (⟨σ.s, σ.c, ks ++ σ.sh⟩ : St).ab = σ.ab.shares ks := by
  refine Ab.ext' ?_ ?_ (funext fun k => ?_) ?_
  · rw [(shares_c σ.ab ks).2.2]; rfl
  · rw [(shares_c σ.ab ks).1]; rfl
  · rw [shares_sh]
    simp only [St.ab, memB_iff]
    rw [Bool.or_comm]
    simp
  · rw [(shares_c σ.ab ks).2.1]; rfl

theorem putSh_out {o : Oper} {σ : St} {s : S} {ks : List Nat} {K : St → Prop} (h : putSh σ ks o.dst s K) (he : TEff P T o σ.ab { s, sh := ks }) : Out P T R o σ K := by
  unfold putSh at h
  split at h
  · rename_i d ss c sh hd
    refine ⟨_, _, .inl he, ?_, h⟩
    have := ab_cons ⟨ss, c, sh⟩ d s ks
    rw [hd]
    exact this
  · rename_i ss c sh hd
    refine ⟨_, _, .inl he, ?_, h⟩
    rw [hd]
    exact ab_share ⟨ss, c, sh⟩ ks

theorem ab_new (σ : St) (d : Nat) (s : S) (ks : List Nat) (A : Arr) : (⟨(d, s) :: σ.s, (d, some A) :: σ.c, ks ++ σ.sh⟩ : St).ab = ((σ.ab.shares ks).al d A).put (some d) s := by
  have h := ab_cons σ d s ks
  refine Ab.ext' ?_ (funext fun k => ?_) ?_ (funext fun k => ?_)
  · have := congrArg Ab.s h; exact this
  · rw [put_c]
    have e := congrFun (shares_c σ.ab ks).1 k
    simp only [Ab.al, St.ab, lkC_cons]
    by_cases hk : k = d
    · simp [hk]
    · simp only [hk, if_false]; exact e.symm
  · have := congrArg Ab.sh h
    rw [put_sh] at this ⊢
    exact this
  · rw [put_us]
    have e := congrFun (shares_c σ.ab ks).2.1 k
    simp only [Ab.al, St.ab, lkC_cons]
    by_cases hk : k = d
    · simp [hk]
    · simp only [hk, if_false]; exact e.symm

theorem newK_out {o : Oper} {σ : St} {ks : List Nat} {s : Nat → S} {A : Arr} {K : St → Prop} (h : newK σ o.dst ks s A K) (he : ∀ d, o.dst = some d → σ.ab.us d = false → TEff P T o σ.ab { s := s d, sh := ks, al := some (d, A) }) : Out P T R o σ K := by
  unfold newK at h
  split at h
  · rename_i d ss c sh hd
    split at h
    · rename_i hl
      refine ⟨_, _, .inl (he d hd (by simp [St.ab, hl])), ?_, h⟩
      rw [hd]
      exact ab_new ⟨ss, c, sh⟩ d (s d) ks A
    · exact h.elim
  · exact h.elim

theorem newK_outW {o : Oper} {σ : St} {s : Nat → S} {A : Arr} {K : St → Prop} (h : newK σ o.dst [] s A K) (he : ∀ d, o.dst = some d → σ.ab.us d = false → WEff P T R o σ.ab { s := s d, al := some (d, A) }) : Out P T R o σ K := by
  unfold newK at h
  split at h
  · rename_i d ss c sh hd
    split at h
    · rename_i hl
      refine ⟨_, _, .inr (he d hd (by simp [St.ab, hl])), ?_, h⟩
      rw [hd]
      exact ab_new ⟨ss, c, sh⟩ d (s d) [] A
    · exact h.elim
  · exact h.elim

theorem live {σ : St} {k : Nat} {A : Arr} (h : lkC k σ.c = some (some A)) : σ.ab.c k = some A := by simp [St.ab, h]

theorem toDS_spec {σ : St} {s : S} {K : D → List Nat → Prop} (h : toDS σ s K) : ∃ x ks, ToD σ.ab s x ks ∧ K x ks := by
  unfold toDS at h
  split at h
  · exact ⟨_, _, .d _, h⟩
  · exact ⟨_, _, .nil, h⟩
  · split at h
    · rename_i A hl
      exact ⟨_, _, .av _ _ A (live hl), takeK_iff.1 h⟩
    · exact h.elim
  · exact h.elim

theorem argK_spec {σ : St} {s : S} {K : A1 → List Nat → Prop} (h : argK σ s K) : ∃ x ks, ToA σ.ab s x ks ∧ K x ks := by
  unfold argK at h
  split at h
  · exact ⟨_, _, .fn _, h⟩
  · exact ⟨_, _, .d (.d _), h⟩
  · obtain ⟨x, ks, h1, h2⟩ := toDS_spec h; exact ⟨_, _, .d h1, h2⟩

theorem argsK_spec {σ : St} : ∀ {l : List Operand} {K : List A1 → List Nat → Prop}, argsK σ l K → ∃ as ks, ToAs σ.ab (l.map σ.ab.val) as ks ∧ K as ks
  | [], _, h => ⟨_, _, .nil, h⟩
  | x :: r, _, h => by
    obtain ⟨a, ks, h1, h2⟩ := argK_spec (K := _) h
    obtain ⟨as, ks', h3, h4⟩ := argsK_spec h2
    rw [valS_ab] at h1
    exact ⟨_, _, .cons h1 h3, h4⟩

theorem partsK_spec {σ : St} : ∀ {l : List (Nat × Operand)} {K : List D → List Nat → Prop}, partsK σ l K → ∃ ds ks, ToDs σ.ab (l.map fun p => σ.ab.val p.2) ds ks ∧ K ds ks
  | [], _, h => ⟨_, _, .nil, h⟩
  | (i, x) :: r, _, h => by
    obtain ⟨a, ks, h1, h2⟩ := toDS_spec (K := _) h
    obtain ⟨as, ks', h3, h4⟩ := partsK_spec h2
    rw [valS_ab] at h1
    exact ⟨_, _, .cons h1 h3, h4⟩

theorem ToDs.len {τ : Ab} {ss : List S} {ds : List D} {ks : List Nat} (h : ToDs τ ss ds ks) : ds.length = ss.length := by
  induction h with
  | nil => rfl
  | cons _ _ ih => simp [ih]

theorem setsK_spec : ∀ {ps : List (Nat × Operand)} {ds xs : List D} {K : List D → Prop}, ds.length = ps.length → setsK ps ds xs K → (∀ p ∈ ps, p.1 < xs.length) ∧ K (((ps.map (·.1)).zip ds).foldl (fun xs q => xs.set q.1 q.2) xs)
  | [], _, _, _, _, h => ⟨fun p hp => by simp at hp, by simpa [setsK] using h⟩
  | (i, x) :: ps, [], _, _, hl, _ => by simp at hl
  | (i, x) :: ps, d :: ds, xs, K, hl, h => by
    simp only [setsK] at h
    obtain ⟨h1, h2⟩ := setK_iff.1 h
    obtain ⟨h3, h4⟩ := setsK_spec (by simpa using hl) h2
    refine ⟨fun p hp => ?_, h4⟩
    rcases List.mem_cons.1 hp with rfl | hp
    · exact h1
    · simpa using h3 p hp

theorem intOf_spec {s : S} {K : Int → Prop} (h : intOf? s K) : ∃ n, s = .d (.sc (.int .i64 n)) ∧ K n := by
  unfold intOf? at h
  split at h
  · exact ⟨_, rfl, h⟩
  · exact h.elim

theorem contK_spec {σ : St} {s : S} {K : List D → Prop} (h : contK σ s K) : ∃ ys, ToCont σ.ab s ys ∧ K ys := by
  unfold contK at h
  split at h
  · exact ⟨_, .d _, h⟩
  · exact ⟨_, .nil, h⟩
  · split at h
    · rename_i A hl
      exact ⟨_, .av _ _ A (live hl), takeK_iff.1 h⟩
    · exact h.elim
  · exact h.elim

theorem u8Of_spec {y : D} {n : Int} (h : u8Of y = some n) : y = .sc (.int .u8 n) := by
  unfold u8Of at h
  split at h
  · cases h; rfl
  · cases h
theorem bytesK_spec : ∀ {ys : List D} {acc : ByteArray} {K : ByteArray → Prop}, bytesK ys acc K → ∃ bs : List Int, ys = bs.map (fun n => .sc (.int .u8 n)) ∧ K (bs.foldl (fun r n => r.push (UInt8.ofNat n.toNat)) acc)
  | [], acc, K, h => ⟨[], rfl, h⟩
  | y :: r, acc, K, h => by
    unfold bytesK at h
    cases hu : u8Of y with
    | none => rw [hu] at h; exact h.elim
    | some n =>
      rw [hu] at h
      obtain ⟨bs, rfl, hk⟩ := bytesK_spec h
      exact ⟨n :: bs, by rw [u8Of_spec hu]; rfl, hk⟩
theorem mapD_eq (l : List D) (K : List T1 → Prop) : mapD l K = K (l.map .d) := by
  induction l generalizing K with
  | nil => rfl
  | cons x r ih => simp only [mapD, ih]; rfl

theorem allSc_spec {l : List D} (h : allSc l = true) : ∃ vs : List Value, l = vs.map .sc := by
  induction l with
  | nil => exact ⟨[], rfl⟩
  | cons x r ih =>
    cases x with
    | sc v => obtain ⟨vs, hv⟩ := ih h; exact ⟨v :: vs, by simp [hv]⟩
    | _ => cases h

theorem callK_out {o : Oper} {σ : St} {fx : Operand} {args : Array Operand} {tys : Array TypeId} (ho : o.op = .call { callee := .value fx, args, argTypes := tys }) {K : St → Prop} (h : callK P σ o.dst (valS σ fx) args.toList K) : Out P T R o σ K := by
  unfold callK at h
  split at h
  case h_2 => exact h.elim
  case h_1 f hf =>
  rw [valS_ab] at hf
  obtain ⟨as, ks, h1, h2⟩ := argsK_spec h
  replace h2 := h2.out
  obtain ⟨r, hc, h3⟩ := h2
  unfold resK at h3
  split at h3
  · rename_i x
    split at h3
    · exact putS_out h3 (.callFlat fx args tys f as ks _ _ ho hf h1 hc (.d _))
    · exact putSh_out h3 (.call fx args tys f as ks _ _ none ho hf h1 hc (.d _))
  · rename_i e sz xs
    exact newK_out h3 fun d hd hu => .call fx args tys f as ks _ _ _ ho hf h1 hc (.own ⟨e, sz, xs⟩ d hd hu)
  · rename_i e sz xs
    exact newK_out h3 fun d hd hu => .call fx args tys f as ks _ _ _ ho hf h1 hc (.ptr ⟨e, sz, xs⟩ d hd hu)
  · exact h3.elim
  · rename_i x rest
    split at h3
    · rename_i v hr
      obtain ⟨vs, rfl⟩ := allSc_spec hr
      rw [mapD_eq] at h3
      refine putS_out h3 (.callFlat fx args tys f as ks _ _ ho hf h1 hc ?_)
      have := FlatRes.tup v vs
      simpa [List.map_map, Function.comp_def] using this
    · rw [mapD_eq] at h3
      exact putSh_out h3 (.call fx args tys f as ks _ _ none ho hf h1 hc (.tupd _ _))
  · rename_i e sz xs rest
    rw [mapD_eq] at h3
    exact newK_out h3 fun d hd hu => .call fx args tys f as ks _ _ _ ho hf h1 hc (.tupo ⟨e, sz, xs⟩ rest d hd hu)
  · exact h3.elim
  · rename_i e sz xs
    exact newK_out h3 fun d hd hu => .callFr fx args tys f as ks _ _ _ ho hf h1 hc (.one ⟨e, sz, xs⟩ d hd hu)
  · rename_i e sz xs rest
    split at h3
    · rename_i hr
      obtain ⟨vs, rfl⟩ := allSc_spec hr
      rw [mapD_eq] at h3
      refine newK_out h3 fun d hd hu => .callFr fx args tys f as ks _ _ _ ho hf h1 hc ?_
      have := FrRes.tup (τ := σ.ab) (dst := o.dst) ⟨e, sz, xs⟩ vs d hd hu
      simpa [List.map_map, Function.comp_def] using this
    · exact h3.elim

theorem ab_up (σ : St) (k : Nat) (A : Arr) (ks : List Nat) (hk : (lkC k σ.c).isSome = true) : (⟨σ.s, (k, some A) :: σ.c, ks ++ σ.sh⟩ : St).ab = (σ.ab.shares ks).up k A := by
  refine Ab.ext' ?_ (funext fun j => ?_) ?_ (funext fun j => ?_)
  · have := (shares_c σ.ab ks).2.2; exact this.symm
  · have e := congrFun (shares_c σ.ab ks).1 j
    simp only [Ab.up, St.ab, lkC_cons]
    by_cases hj : j = k
    · simp [hj]
    · simp only [hj, if_false]; exact e.symm
  · have := congrArg Ab.sh (ab_share σ ks); exact this
  · have e := congrFun (shares_c σ.ab ks).2.1 j
    simp only [Ab.up, St.ab, lkC_cons]
    by_cases hj : j = k
    · subst hj; simp only [if_true]; exact (e.trans hk).symm
    · simp only [hj, if_false]; exact e.symm

theorem newK_ab {σ : St} {dst : Option Nat} {ks : List Nat} {s : Nat → S} {A : Arr} {K : St → Prop} (h : newK σ dst ks s A K) : ∃ d σ', dst = some d ∧ σ.ab.us d = false ∧ σ'.ab = ((σ.ab.shares ks).al d A).put (some d) (s d) ∧ K σ' := by
  unfold newK at h
  split at h
  · rename_i d ss c sh
    split at h
    · rename_i hl
      exact ⟨d, _, rfl, by simp [St.ab, hl], ab_new ⟨ss, c, sh⟩ d (s d) ks A, h⟩
    · exact h.elim
  · exact h.elim
theorem putSh_ab {σ : St} {ks : List Nat} {dst : Option Nat} {s : S} {K : St → Prop} (h : putSh σ ks dst s K) : ∃ σ', σ'.ab = (σ.ab.shares ks).put dst s ∧ K σ' := by
  unfold putSh at h
  split at h
  · rename_i d ss c sh
    exact ⟨_, ab_cons ⟨ss, c, sh⟩ d s ks, h⟩
  · rename_i ss c sh
    exact ⟨_, ab_share ⟨ss, c, sh⟩ ks, h⟩
theorem resPut_spec {σ : St} {dst : Option Nat} {ks : List Nat} {r : Res} {K : St → Prop} (h : resPutK σ dst ks r K) : ∃ s al σ', ResE σ.ab dst r s al ∧ σ'.ab = ((σ.ab.shares ks).alO al).put dst s ∧ K σ' := by
  unfold resPutK at h
  split at h
  · obtain ⟨σ', h1, h2⟩ := putSh_ab h
    exact ⟨_, none, σ', .d _, h1, h2⟩
  · rename_i e sz xs
    obtain ⟨d, σ', rfl, hu, h1, h2⟩ := newK_ab h
    exact ⟨_, _, σ', .own ⟨e, sz, xs⟩ d rfl hu, h1, h2⟩
  · rename_i e sz xs
    obtain ⟨d, σ', rfl, hu, h1, h2⟩ := newK_ab h
    exact ⟨_, _, σ', .ptr ⟨e, sz, xs⟩ d rfl hu, h1, h2⟩
  · rw [mapD_eq] at h
    obtain ⟨σ', h1, h2⟩ := putSh_ab h
    exact ⟨_, none, σ', .tupd _ _, h1, h2⟩
  · rename_i e sz xs rest
    rw [mapD_eq] at h
    obtain ⟨d, σ', rfl, hu, h1, h2⟩ := newK_ab h
    exact ⟨_, _, σ', .tupo ⟨e, sz, xs⟩ rest d rfl hu, h1, h2⟩
  · exact h.elim
  · obtain ⟨σ', h1, h2⟩ := putSh_ab h
    exact ⟨_, none, σ', .unit, h1, h2⟩
  · exact h.elim
  · exact h.elim
theorem shares_up (τ : Ab) (k : Nat) (A : Arr) (ks : List Nat) : (τ.up k A).shares ks = (τ.shares ks).up k A := by
  induction ks generalizing τ with
  | nil => rfl
  | cons j ks ih => exact ih (τ.share j)
theorem largs_spec {σ : St} {p : Bool} : ∀ {l : List Operand} {lo : Option Nat} {K : List A2 → List Nat → Option Nat → Prop}, largsK σ p l lo K → ∃ as ks lo', K as ks lo' ∧ (∀ k, lo = some k → lo' = some k) ∧
    (∀ k, lo = none → lo' = some k → ∃ x ∈ l, (∃ A, lkC k σ.c = some (some A) ∧ σ.ab.val x = .av k A.xs.length) ∨ σ.ab.val x = .ae k 0) ∧
    (∀ (k : Nat) (A : Option Arr), (∀ k1, lo' = some k1 → k = k1 ∧ ∃ A0, A = some A0 ∧ (∀ A1, lkC k1 σ.c = some (some A1) → A1 = A0)) → ToLs σ.ab k A (l.map σ.ab.val) as ks)
  | [], lo, K, h => ⟨[], [], lo, h, fun _ h => h, (fun k h1 h2 => by rw [h1] at h2; cases h2), fun _ _ _ => .nil⟩
  | x :: r, lo, K, h => by
    have plain : ∀ (a : A2) (j : List Nat), (∀ k A, ToL σ.ab k A (σ.ab.val x) a j) → largsK σ p r lo (fun as ks l' => K (a :: as) (j ++ ks) l') → ∃ as ks lo', K as ks lo' ∧ (∀ k, lo = some k → lo' = some k) ∧
        (∀ k, lo = none → lo' = some k → ∃ y ∈ x :: r, (∃ A, lkC k σ.c = some (some A) ∧ σ.ab.val y = .av k A.xs.length) ∨ σ.ab.val y = .ae k 0) ∧
        (∀ (k : Nat) (A : Option Arr), (∀ k1, lo' = some k1 → k = k1 ∧ ∃ A0, A = some A0 ∧ (∀ A1, lkC k1 σ.c = some (some A1) → A1 = A0)) → ToLs σ.ab k A ((x :: r).map σ.ab.val) as ks) := fun a j ha h => by
      obtain ⟨as, ks, lo', h1, h2, h3, h4⟩ := largs_spec h
      exact ⟨a :: as, j ++ ks, lo', h1, h2, fun k e1 e2 => by obtain ⟨y, hy, h5⟩ := h3 k e1 e2; exact ⟨y, List.mem_cons_of_mem _ hy, h5⟩, fun k A hk => .cons (ha k A) (h4 k A hk)⟩
    unfold largsK at h
    split at h
    · rename_i f hv
      rw [valS_ab] at hv
      exact plain (.fn f) [] (fun k A => by rw [hv]; exact .fn f) h
    · rename_i k hv
      rw [valS_ab] at hv
      split at h
      case h_2 => exact h.elim
      obtain ⟨as, ks, lo', h1, h2, h3, h4⟩ := largs_spec h
      have e := h2 k rfl
      refine ⟨.lp :: as, [] ++ ks, lo', h1, fun _ h => (by cases h), fun k' _ e2 => ⟨x, List.mem_cons_self, .inr ?_⟩, fun k' A hk => .cons ?_ (h4 k' A hk)⟩
      · rw [e] at e2; cases e2; exact hv
      · obtain ⟨rfl, A0, rfl, _⟩ := hk k e
        rw [hv]; exact .lp A0 rfl
    · rename_i k m hv
      rw [valS_ab] at hv
      split at h
      · split at h
        case h_2 => exact h.elim
        rename_i A hA
        replace h := h.out
        obtain ⟨hm, h⟩ := h
        obtain ⟨as, ks, lo', h1, h2, h3, h4⟩ := largs_spec h
        have e := h2 k rfl
        refine ⟨.lv :: as, [] ++ ks, lo', h1, fun _ h => (by cases h), fun k' _ e2 => ⟨x, List.mem_cons_self, .inl ?_⟩, fun k' A' hk => .cons ?_ (h4 k' A' hk)⟩
        · rw [e] at e2; cases e2; exact ⟨A, hA, by rw [hv, hm]⟩
        · obtain ⟨rfl, A0, rfl, h5⟩ := hk k e
          have := h5 A hA; subst this
          rw [hv]; exact .lv m A rfl hm
      · obtain ⟨d, j, h5, h⟩ := toDS_spec h
        exact plain (.d d) j (fun k' A' => by rw [hv]; exact .d h5) h
    · rename_i y hv
      rw [valS_ab] at hv
      exact plain (.d y) [] (fun k A => by rw [hv]; exact .d (.d y)) h
    · rename_i hv
      rw [valS_ab] at hv
      exact plain (.d (.sl [])) [] (fun k A => by rw [hv]; exact .d .nil) h
    · exact h.elim

theorem shares_sh_mem {σ : St} {ks : List Nat} {k : Nat} (h : memB k (ks ++ σ.sh) = false) : (σ.ab.shares ks).sh k = false := by
  rw [shares_sh]
  rw [memB_iff] at h
  simp only [St.ab, memB_iff]
  simp at h ⊢
  exact ⟨h.2, h.1⟩

/-- a write -/
theorem up_out {o : Oper} {σ : St} {k : Nat} {A : Arr} {ks : List Nat} {K : St → Prop} (hk : (lkC k σ.c).isSome = true) (h : putSh ⟨σ.s, (k, some A) :: σ.c, σ.sh⟩ ks o.dst .un K)
    (he : WEff P T R o σ.ab { s := .un, sh := ks, up := some (k, A) }) : Out P T R o σ K := by
  unfold putSh at h
  split at h
  · rename_i d ss c sh hd hσ
    cases hσ
    refine ⟨_, _, .inr he, ?_, h⟩
    have h1 := ab_cons ⟨σ.s, (k, some A) :: σ.c, σ.sh⟩ d .un ks
    have h2 := ab_up σ k A ks hk
    rw [hd]
    refine h1.trans ?_
    have h3 : (St.ab ⟨σ.s, (k, some A) :: σ.c, σ.sh⟩).shares ks = (σ.ab.shares ks).up k A := by
      rw [← h2]; exact (ab_share ⟨σ.s, (k, some A) :: σ.c, σ.sh⟩ ks).symm
    rw [h3]
    rfl
  · rename_i ss c sh hd hσ
    cases hσ
    refine ⟨_, _, .inr he, ?_, h⟩
    rw [hd]
    exact ab_up σ k A ks hk

theorem ab_app (σ : St) (k d : Nat) (s : S) (A : Arr) (hk : (lkC k σ.c).isSome = true) : (⟨(d, s) :: σ.s, (d, some A) :: (k, none) :: σ.c, σ.sh⟩ : St).ab = ((σ.ab.kill k).al d A).put (some d) s := by
  refine Ab.ext' (funext fun t => ?_) (funext fun j => ?_) ?_ (funext fun j => ?_)
  · rw [put_s]
    simp only [St.ab, lkS_cons, Ab.al, Ab.kill]
    by_cases h : t = d
    · subst h; simp
    · simp [h, Ne.symm h]
  · rw [put_c]
    simp only [Ab.al, Ab.kill, St.ab, lkC_cons]
    by_cases hj : j = d
    · simp [hj]
    · by_cases hjk : j = k
      · simp only [hj, if_false]; simp [hjk]
      · simp [hj, hjk]
  · rw [put_sh]; rfl
  · rw [put_us]
    simp only [Ab.al, Ab.kill, St.ab, lkC_cons]
    by_cases hj : j = d
    · simp [hj]
    · by_cases hjk : j = k
      · subst hjk; simp only [hj, if_false, if_true]; simp [hk]
      · simp [hj, hjk]

theorem appFin_out {o : Oper} {σ : St} {k m : Nat} {A : Arr} {K : St → Prop} (h : appFin σ o.dst k m A K) (hk : (lkC k σ.c).isSome = true)
    (he : ∀ d, o.dst = some d → σ.ab.us d = false → σ.ab.sh d = false → WEff P T R o σ.ab { s := .av d m, ki := some k, al := some (d, A) }) : Out P T R o σ K := by
  unfold appFin at h
  split at h
  · rename_i d ss c sh hd
    split at h
    · rename_i hlc hmb
      refine ⟨_, _, .inr (he d hd (by simp [St.ab, hlc]) hmb), ?_, h⟩
      rw [hd]
      exact ab_app ⟨ss, c, sh⟩ k d (.av d m) A hk
    · exact h.elim
  · exact h.elim

theorem appK_out (_hT : TOK P T) {o : Oper} {σ : St} {x y : Operand} {t : TypeId} (ho : o.op = .call { callee := .builtin .append, args := #[x, y], argTypes := #[t, t] }) {K : St → Prop} (h : appK T σ o.dst t (valS σ x) (valS σ y) K) : Out P T R o σ K := by
  have hv := valS_ab σ
  unfold appK at h
  split at h
  case h_2 => exact h.elim
  rename_i e hty
  split at h
  case h_2 => exact h.elim
  rename_i ety hety
  split at h
  · rename_i k m hx
    rw [hv] at hx
    split at h
    · rename_i e' sz xs hl hsh
      obtain ⟨he, h⟩ := beqK_iff.1 h
      obtain ⟨hw, h⟩ := beqK_iff.1 h
      obtain ⟨ys, hy, h⟩ := contK_spec h
      rw [hv] at hy
      replace h := h.out
      obtain ⟨n, xs', h1, h2, hn, hwd, h⟩ := h
      subst h1; subst h2
      exact appFin_out h (by rw [hl]; rfl) fun d hd hus hds => .appendA t x y e ety k m d ⟨e', sz, xs⟩ ys ho hd hus hds (tyOf_mem hty) (tyOf_mem hety) hx (live hl) hsh he hw hy hwd hn
    · exact h.elim
  · rename_i hx
    rw [hv] at hx
    split at h
    · exact h.elim
    · rename_i w hw
      obtain ⟨ys, hy, h⟩ := contK_spec h
      rw [hv] at hy
      replace h := h.out
      obtain ⟨n, xs', h1, h2, hn, hwd, h⟩ := h
      have e1 : xs' = ys := by simpa using h2
      subst e1
      have e2 : n = xs'.length := by simpa using h1
      subst e2
      exact newK_outW h fun d hd hu => .appendN t x y e ety d xs' ho hd hu (tyOf_mem hty) (tyOf_mem hety) (by omega) hx hy hwd hn
  · exact h.elim

theorem lcallK_out {o : Oper} {σ : St} {f : FuncId} {args : Array Operand} {tys : Array TypeId} (ho : o.op = .call { callee := .value (.func f), args, argTypes := tys }) (hL : memB (100000 + f) R = true) {K : St → Prop} (h : lcallK P σ o.dst f args.toList K) : Out P T R o σ K := by
  unfold lcallK at h
  obtain ⟨as, ks, lo, h1, h2, h3, h4⟩ := largs_spec h
  split at h1
  case h_2 => exact h1.elim
  rename_i k
  split at h1
  case h_2 => exact h1.elim
  rename_i e sz xs hl hsh
  replace h1 := h1.out
  obtain ⟨r, xs', hc, h1⟩ := h1
  obtain ⟨s, al, σ', hr, hab, hK⟩ := resPut_spec h1
  have hup : (⟨σ.s, (k, some ⟨e, sz, xs'⟩) :: σ.c, σ.sh⟩ : St).ab = σ.ab.up k ⟨e, sz, xs'⟩ := by
    have := ab_up σ k ⟨e, sz, xs'⟩ [] (by rw [hl]; rfl)
    simpa [Ab.shares] using this
  rw [hup] at hr hab
  refine ⟨_, σ', .inr (.lcall (.func f) args tys f as ks k ⟨e, sz, xs⟩ r xs' s al ho rfl (by rw [memB_iff] at hL; exact hL) (h4 k (some ⟨e, sz, xs⟩) (fun k1 e1 => by cases e1; exact ⟨rfl, _, rfl, fun A1 hA1 => by rw [hl] at hA1; cases hA1; rfl⟩)) ?_ (live hl) (shares_sh_mem hsh) hc (hr.usd fun d _ h => h)), ?_, hK⟩
  · obtain ⟨x, hx, h5⟩ := h3 k rfl rfl
    refine ⟨x, hx, ?_⟩
    rcases h5 with ⟨A, hA, h5⟩ | h5
    · rw [hl] at hA; cases hA; exact .inl h5
    · exact .inr h5
  · rw [hab, shares_up]; rfl

/-- What may come of an operation whose results are known by a property. -/
def OutE (P : Program) (T : Tys) (R : List Nat) (o : Oper) (σ : St) (K : St → Prop) : Prop :=
  Out P T R o σ K ∨ ∃ E : Ef → Prop, DEff P T o σ.ab E ∧ ∀ e, E e → ∃ σ', σ'.ab = σ.ab.eff o.dst e ∧ K σ'

theorem dcallK_out {o : Oper} {σ : St} {f : FuncId} {args : Array Operand} {tys : Array TypeId} (ho : o.op = .call { callee := .value (.func f), args, argTypes := tys }) {K : St → Prop} (h : dcallK P σ o.dst f args.toList K) : OutE P T R o σ K := by
  unfold dcallK at h
  obtain ⟨as, ks, lo, h1, h2, h3, h4⟩ := largs_spec h
  split at h1
  · rename_i k
    split at h1
    case h_2 => exact h1.elim
    rename_i e sz xs hl hsh
    replace h1 := h1.out
    obtain ⟨R0, hc, h1⟩ := h1
    refine .inr ⟨fun e => ∃ σ', σ'.ab = σ.ab.eff o.dst e ∧ K σ', ?_, fun e h => h⟩
    refine .lcall (.func f) args tys f as ks k ⟨e, sz, xs⟩ R0 ho rfl (h4 k (some ⟨e, sz, xs⟩) (fun k1 e1 => by cases e1; exact ⟨rfl, _, rfl, fun A1 hA1 => by rw [hl] at hA1; cases hA1; rfl⟩)) (live hl) (shares_sh_mem hsh) hc (fun r xs' hR => ?_)
    obtain ⟨s, al, σ', hr, hab, hK⟩ := resPut_spec (h1 r xs' hR)
    have hup : (⟨σ.s, (k, some ⟨e, sz, xs'⟩) :: σ.c, σ.sh⟩ : St).ab = σ.ab.up k ⟨e, sz, xs'⟩ := by
      have := ab_up σ k ⟨e, sz, xs'⟩ [] (by rw [hl]; rfl)
      simpa [Ab.shares] using this
    rw [hup] at hr hab
    exact ⟨s, al, hr.usd fun d _ h => h, σ', by rw [hab, shares_up]; rfl, hK⟩
  · replace h1 := h1.out
    obtain ⟨R0, hc, h1⟩ := h1
    refine .inr ⟨fun e => ∃ σ', σ'.ab = σ.ab.eff o.dst e ∧ K σ', ?_, fun e h => h⟩
    refine .pcall (.func f) args tys f as ks R0 ho rfl (h4 0 none (fun k1 e1 => by cases e1)) hc (fun r xs' hR => ?_)
    obtain ⟨s, al, σ', hr, hab, hK⟩ := resPut_spec (h1 r xs' hR)
    exact ⟨s, al, hr, σ', by rw [hab]; rfl, hK⟩

theorem margs_spec {σ : St} : ∀ {l : List Operand} {K : List A2 → List Nat → Nat → Arr → Prop}, margsK σ l K → ∃ as ks k A, K as ks k A ∧ lkC k σ.c = some (some A) ∧ ToLs σ.ab k (some A) (l.map σ.ab.val) as ks
  | [], K, h => h.elim
  | [x], K, h => by
    unfold margsK at h
    split at h
    case h_2 => exact h.elim
    rename_i k m hv
    rw [valS_ab] at hv
    split at h
    case h_2 => exact h.elim
    rename_i e sz xs hA
    replace h := h.out
    refine ⟨[.lv], [], k, ⟨e, sz, xs⟩, h.2, hA, ?_⟩
    have : ToL σ.ab k (some ⟨e, sz, xs⟩) (σ.ab.val x) .lv [] := by rw [hv]; exact .lv m _ rfl h.1
    exact .cons this .nil
  | x :: y :: r, K, h => by
    have plain : ∀ (a : A2) (j : List Nat), (∀ k A, ToL σ.ab k A (σ.ab.val x) a j) → margsK σ (y :: r) (fun as ks k A => K (a :: as) (j ++ ks) k A) → ∃ as ks k A, K as ks k A ∧ lkC k σ.c = some (some A) ∧ ToLs σ.ab k (some A) ((x :: y :: r).map σ.ab.val) as ks := fun a j ha h => by
      obtain ⟨as, ks, k, A, h1, h2, h3⟩ := margs_spec h
      exact ⟨a :: as, j ++ ks, k, A, h1, h2, .cons (ha k (some A)) h3⟩
    unfold margsK at h
    split at h
    · rename_i f hv
      rw [valS_ab] at hv
      exact plain (.fn f) [] (fun k A => by rw [hv]; exact .fn f) h
    · rename_i k m hv
      rw [valS_ab] at hv
      obtain ⟨d, j, h5, h⟩ := toDS_spec h
      exact plain (.d d) j (fun k' A' => by rw [hv]; exact .d h5) h
    · rename_i z hv
      rw [valS_ab] at hv
      exact plain (.d z) [] (fun k A => by rw [hv]; exact .d (.d z)) h
    · rename_i hv
      rw [valS_ab] at hv
      exact plain (.d (.sl [])) [] (fun k A => by rw [hv]; exact .d .nil) h
    · exact h.elim
theorem shares_kill (τ : Ab) (k : Nat) (ks : List Nat) : (τ.kill k).shares ks = (τ.shares ks).kill k := by
  induction ks generalizing τ with
  | nil => rfl
  | cons j ks ih => exact ih (τ.share j)
theorem ab_kill (σ : St) (k : Nat) (hk : (lkC k σ.c).isSome = true) : (⟨σ.s, (k, none) :: σ.c, σ.sh⟩ : St).ab = σ.ab.kill k := by
  refine Ab.ext' rfl (funext fun j => ?_) rfl (funext fun j => ?_)
  · simp only [Ab.kill, St.ab, lkC_cons]
    by_cases hj : j = k
    · simp [hj]
    · simp only [hj, if_false]
  · simp only [Ab.kill, St.ab, lkC_cons]
    by_cases hj : j = k
    · subst hj; simp only [if_true]; exact hk.symm
    · simp only [hj, if_false]
theorem mcallK_out {o : Oper} {σ : St} {f : FuncId} {args : Array Operand} {tys : Array TypeId} (ho : o.op = .call { callee := .value (.func f), args, argTypes := tys }) {K : St → Prop} (h : mcallK P σ o.dst f args.toList K) : OutE P T R o σ K := by
  unfold mcallK at h
  obtain ⟨as, ks, k, A, h1, hl, h3⟩ := margs_spec h
  split at h1
  case h_2 => exact h1.elim
  rename_i hsh
  replace h1 := h1.out
  obtain ⟨⟨e, sz, xs⟩, rest, hc, h1⟩ := h1
  dsimp only at h1
  rw [mapD_eq] at h1
  have hk : (lkC k σ.c).isSome = true := by rw [hl]; rfl
  obtain ⟨d, σ', hd, hu, hab, hK⟩ := newK_ab h1
  rw [ab_kill σ k hk] at hu hab
  refine .inr ⟨fun e' => ∃ σ', σ'.ab = σ.ab.eff o.dst e' ∧ K σ', ?_, fun e h => h⟩
  refine .mcall (.func f) args tys f as ks k d A ⟨e, sz, xs⟩ rest ho rfl h3 (live hl) (shares_sh_mem hsh) hd hu hc ⟨σ', ?_, hK⟩
  rw [hab, shares_kill, hd, List.map_map]
  rfl

theorem dOp_out (hT : TOK P T) {o : Oper} {σ : St} {K : St → Prop} (h : dOp P T R o σ K) : Out P T R o σ K := by
  have hv := valS_ab σ
  unfold dOp at h
  split at h
  · rename_i x ho
    rw [forceS_eq, hv] at h
    exact putS_out h (.pure _ (by rw [ho]; exact .move x))
  · rename_i x ho
    rw [forceS_eq, hv] at h
    exact putS_out h (.pure _ (by rw [ho]; exact .assign x))
  · rename_i c a b ho
    split at h
    · rename_i t ht
      rw [hv] at ht
      have hp := PEff.pick (P := P) (T := T) c a b t ht
      rw [forceS_eq, forceS_eq, hv, hv] at h
      cases t
      · exact putS_out (show putS σ o.dst (σ.ab.val b) K from h) (.pure _ (by rw [ho]; exact hp))
      · exact putS_out (show putS σ o.dst (σ.ab.val a) K from h) (.pure _ (by rw [ho]; exact hp))
    · exact h.elim
  · rename_i op t x y yt ho
    split at h
    · rename_i dx dy hx hy
      rw [hv] at hx hy
      unfold binK at h
      split at h
      · rename_i a b
        obtain ⟨r, hb, h⟩ := binI_spec (P := P) t h
        exact putS_out h (.pure _ (by rw [ho]; exact .bin op t x y yt _ _ r hx hy hb))
      · rename_i a b
        obtain ⟨r, hb, h⟩ := binI_spec (P := P) t h
        exact putS_out h (.pure _ (by rw [ho]; exact .bin op t x y yt _ _ r hx hy hb))
      · rename_i a b
        split at h
        · replace h := h.out
          exact putS_out h.2 (.pure _ (by rw [ho]; exact .bin _ t x y yt _ _ _ hx hy ⟨rfl, fun x y w => by
            have : ¬ b < 0 := by have := h.1; omega
            simp [eqGuard, binOp_shr, Op.shift, shrI, this]⟩))
        · exact h.elim
      · rename_i a b
        obtain ⟨r, hb, h⟩ := binS_spec (P := P) t h
        exact putS_out h (.pure _ (by rw [ho]; exact .bin op t x y yt _ _ r hx hy hb))
      · rename_i a b
        split at h
        · rename_i hty
          have := (hT _ (tyOf_mem hty)).und
          simp only at this
          obtain ⟨r, hb, h⟩ := binB_spec (P := P) this h
          exact putS_out h (.pure _ (by rw [ho]; exact .bin op t x y yt _ _ r hx hy hb))
        · exact h.elim
      · rename_i fs gs
        split at h
        · rename_i Fs hty
          split at h
          · obtain ⟨b, he, h⟩ := eqsK_spec h
            exact putS_out h (.pure _ (by rw [ho]; exact .eqA t x y yt Fs fs gs b (tyOf_mem hty) hx hy he))
          · obtain ⟨b, he, h⟩ := eqsK_spec h
            exact putS_out h (.pure _ (by rw [ho]; exact .neA t x y yt Fs fs gs b (tyOf_mem hty) hx hy he))
          · exact h.elim
        · exact h.elim
      · exact h.elim
    · exact h.elim
  · rename_i op t x ho
    split at h
    · rename_i dx hx
      rw [hv] at hx
      unfold unK at h
      split at h
      · rename_i b
        exact putS_out h (.pure _ (by rw [ho]; exact .un .not t x _ _ hx ⟨rfl, fun P w => by simp [Op.unary]⟩))
      · rename_i a
        replace h := h.out
        exact putS_out h (.pure _ (by rw [ho]; exact .un .neg t x _ _ hx ⟨rfl, fun P w => by simp [Op.unary, Op.intArith]⟩))
      · exact h.elim
    · exact h.elim
  · rename_i t ho
    split at h
    · rename_i ty hty
      split at h
      · exact h.elim
      · rename_i m hm
        rw [zeroTy_eq] at h
        exact newK_out h fun d hd hu => .alloc t ty d ho hd hu (tyOf_mem hty) (by omega)
    · exact h.elim
  · rename_i t x ho
    obtain ⟨y, ks, h1, h⟩ := toDS_spec h
    rw [hv] at h1
    split at h
    · exact h.elim
    · rename_i m hm
      exact newK_out h fun d hd hu => .box t x y ks d ho hd hu h1 (by omega)
  · rename_i t parts ho
    split at h
    · rename_i Fs hty
      obtain ⟨ds, ks, h1, h⟩ := partsK_spec h
      split at h
      · rename_i hcell
        rw [zerosF_eq] at h
        obtain ⟨h2, h⟩ := setsK_spec (by rw [h1.len]; simp) h
        exact putSh_out h (.build t parts Fs ds ks ho (tyOf_mem hty) h1 (List.all_eq_true.1 hcell) (fun p hp => by simpa using h2 p hp))
      · exact h.elim
    · exact h.elim
  · rename_i t len parts ho
    split at h
    · rename_i e hty
      split at h
      · rename_i ety hety
        obtain ⟨ds, ks, h1, h⟩ := partsK_spec h
        split at h
        · rename_i m hall hw hle
          rw [zeroTy_eq] at h
          obtain ⟨h2, h⟩ := setsK_spec (by rw [h1.len]; simp) h
          exact newK_out h fun d hd hu => .buildSlice t len parts e ety ds ks d ho hd hu (tyOf_mem hty) (tyOf_mem hety) h1 (fun x hx => (beq_iff _ _).1 (List.all_eq_true.1 hall x hx)) (fun p hp => by simpa using h2 p hp) (by omega)
            (Nat.le_of_ble_eq_true hle)
        · exact h.elim
      · exact h.elim
    · exact h.elim
  · rename_i t x y ho
    split at h
    · rename_i e hty
      split at h
      · rename_i ety hety
        obtain ⟨a, ha, h⟩ := intOf_spec h
        obtain ⟨b, hb, h⟩ := intOf_spec h
        rw [hv] at ha hb
        replace h := h.out
        obtain ⟨m, rfl, rfl, hm, h⟩ := h
        split at h
        · exact h.elim
        · rename_i m' hm'
          rw [zeroTy_eq] at h
          exact newK_out h fun d hd hu => .makeSlice t x y m _ _ e ety d ho hd hu (tyOf_mem hty) (tyOf_mem hety) ha hb hm (by omega)
      · exact h.elim
    · exact h.elim
  · rename_i t x ho
    split at h
    · rename_i ty hty
      split at h
      · rename_i y hx
        rw [hv] at hx
        obtain ⟨hf, h⟩ := fitK_iff.1 h
        exact putS_out h (.loadE t x y ty ho (tyOf_mem hty) hx hf)
      · rename_i k i hx
        rw [hv] at hx
        split at h
        · rename_i A hl
          obtain ⟨y, hy, h⟩ := getK_iff.1 h
          obtain ⟨hf, h⟩ := fitK_iff.1 h
          exact putS_out h (.loadA t x k i A y ty ho (tyOf_mem hty) hx (live hl) hy hf)
        · exact h.elim
      · rename_i k i f hx
        rw [hv] at hx
        split at h
        · rename_i A hl
          obtain ⟨y, hy, h⟩ := getK_iff.1 h
          split at h
          · obtain ⟨z, hz, h⟩ := getK_iff.1 h
            obtain ⟨hf, h⟩ := fitK_iff.1 h
            exact putS_out h (.loadF t x k i f A _ z ty ho (tyOf_mem hty) hx (live hl) hy hz hf)
          · exact h.elim
        · exact h.elim
      · exact h.elim
    · exact h.elim
  · rename_i t x y ho
    split at h
    · rename_i ty hty
      split at h
      · rename_i k i hx
        rw [hv] at hx
        obtain ⟨z, ks, hy, h⟩ := toDS_spec h
        rw [hv] at hy
        split at h
        · rename_i e sz xs hl hsh
          obtain ⟨e1, h⟩ := beqK_iff.1 h
          obtain ⟨e2, h⟩ := beqK_iff.1 h
          obtain ⟨hi, h⟩ := setK_iff.1 h
          exact up_out (by rw [hl]; rfl) h (.storeA t x y k i ⟨e, sz, xs⟩ z ks ty ho (tyOf_mem hty) hx (live hl) hy (shares_sh_mem hsh) hi e1 e2)
        · exact h.elim
      · rename_i k i f hx
        rw [hv] at hx
        obtain ⟨z, ks, hy, h⟩ := toDS_spec h
        rw [hv] at hy
        split at h
        · rename_i e sz xs hl hsh hz
          obtain ⟨e1, h⟩ := beqK_iff.1 h
          obtain ⟨w, hw, h⟩ := getK_iff.1 h
          split at h
          · rename_i fs
            obtain ⟨hf, h⟩ := setK_iff.1 h
            obtain ⟨hi, h⟩ := setK_iff.1 h
            exact up_out (by rw [hl]; rfl) h (.storeF t x y k i f ⟨e, sz, xs⟩ fs z ks ty ho (tyOf_mem hty) hx (live hl) hy (shares_sh_mem hsh) hw hf hz e1)
          · exact h.elim
        · exact h.elim
      · exact h.elim
    · exact h.elim
  · rename_i t x f ho
    split at h
    · rename_i Fs hty
      split at h
      · rename_i fs hx
        rw [hv] at hx
        obtain ⟨hl, h⟩ := beqK_iff.1 h
        obtain ⟨z, hz, h⟩ := getK_iff.1 h
        exact putS_out h (.pure _ (by rw [ho]; exact .fieldE t x f Fs fs z (tyOf_mem hty) hl hx hz))
      · rename_i k i hx
        rw [hv] at hx
        split at h
        · rename_i A hl hlt
          exact putS_out h (.fieldA t x f Fs k i A ho (tyOf_mem hty) (Nat.le_of_ble_eq_true hlt) hx (live hl))
        · exact h.elim
      · exact h.elim
    · exact h.elim
  · rename_i t x f ho
    split at h
    · rename_i Fs hty
      split at h
      · rename_i fs hx
        rw [hv] at hx
        obtain ⟨hl, h⟩ := beqK_iff.1 h
        obtain ⟨z, hz, h⟩ := getK_iff.1 h
        exact putS_out h (.pure _ (by rw [ho]; exact .field t x f Fs fs z (tyOf_mem hty) hl hx hz))
      · exact h.elim
    · exact h.elim
  · rename_i t x ix ho
    split at h
    · rename_i e hty
      split at h
      · rename_i ety hety
        split at h
        · rename_i xs hx
          rw [hv] at hx
          obtain ⟨j, hj, h⟩ := intOf_spec h
          rw [hv] at hj
          replace h := h.out
          obtain ⟨h0, y, hy, h⟩ := h
          obtain ⟨hw, h⟩ := beqK_iff.1 h
          exact putS_out h (.pure _ (by rw [ho]; exact .indexD t x ix e ety xs _ j y (tyOf_mem hty) (tyOf_mem hety) hx hj h0 hy hw))
        · rename_i k m hx
          rw [hv] at hx
          split at h
          · rename_i A hl
            obtain ⟨j, hj, h⟩ := intOf_spec h
            rw [hv] at hj
            obtain ⟨hw, h⟩ := beqK_iff.1 h
            replace h := h.out
            obtain ⟨i, rfl, hi, h⟩ := h
            exact putS_out h (.indexA t x ix e ety k m i _ A ho (tyOf_mem hty) (tyOf_mem hety) hx (live hl) hw hj hi)
          · exact h.elim
        · exact h.elim
      · exact h.elim
    · exact h.elim
  · rename_i t x ix ho
    split at h
    · rename_i hty
      split at h
      · rename_i s hx
        rw [hv] at hx
        obtain ⟨j, hj, h⟩ := intOf_spec h
        rw [hv] at hj
        replace h := h.out
        obtain ⟨h0, b, hb, h⟩ := h
        exact putS_out h (.pure _ (by rw [ho]; exact .indexS t x ix s _ j b (tyOf_mem hty) hx hj h0 hb))
      · exact h.elim
    · exact h.elim
  · rename_i x i ho
    split at h
    · rename_i xs hx
      rw [hv] at hx
      obtain ⟨r, hr, h⟩ := getK_iff.1 h
      split at h
      · exact putS_out h (.pure _ (by rw [ho]; exact .extract x i xs _ hx hr))
      · exact putS_out h (.pure _ (by rw [ho]; exact .extract x i xs _ hx hr))
    · exact h.elim
  · rename_i fn first captured ho
    split at h
    · rename_i f hf hc
      have e1 : first = #[] := by simpa using hf
      have e2 : captured = #[] := by simpa using hc
      subst e1; subst e2
      exact putS_out h (.pure _ (by rw [ho]; exact .mkfn f))
    · exact h.elim
  · rename_i fx args tys ho
    split at h
    · rename_i f
      split at h
      · rename_i hL
        exact lcallK_out ho hL h
      · exact callK_out ho h
    · exact callK_out ho h
  · rename_i x ho
    split at h
    · rename_i k i hx
      rw [hv] at hx
      split at h
      · rename_i A hl
        exact putS_out h (.nilA x k i A ho hx (live hl))
      · exact h.elim
    · exact h.elim
  · rename_i src dst x ho
    split at h
    · rename_i sty kd m hs hd hx
      rw [hv] at hx
      have hu := (hT _ (tyOf_mem hd)).und
      simp only at hu
      exact putS_out h.out (.pure _ (by rw [ho]; exact .conv src dst x kd .i64 m sty (tyOf_mem hs) hu hx))
    · rename_i sty kd m hs hd hx
      rw [hv] at hx
      have hu := (hT _ (tyOf_mem hd)).und
      simp only at hu
      exact putS_out h.out (.pure _ (by rw [ho]; exact .conv src dst x kd .u8 m sty (tyOf_mem hs) hu hx))
    · rename_i e hs hd
      split at h
      · rename_i he
        obtain ⟨ys, hy, h⟩ := contK_spec h
        obtain ⟨bs, hb, h'⟩ := bytesK_spec h
        rw [hb, hv] at hy
        exact putS_out h' (.convS src dst e x bs ho (tyOf_mem hs) (tyOf_mem he) (tyOf_mem hd) hy)
      · exact h.elim
    · exact h.elim
  · rename_i args tys ho
    split at h
    · rename_i x t hargs htys
      have e1 : args = #[x] := by apply Array.toList_inj.1; simpa using hargs
      have e2 : tys = #[t] := by apply Array.toList_inj.1; simpa using htys
      subst e1; subst e2
      unfold lenK at h
      split at h
      · rename_i xs e hx hty
        rw [hv] at hx
        exact putS_out h (.pure _ (by rw [ho]; exact .lenD t x e xs (tyOf_mem hty) hx))
      · rename_i e hx hty
        rw [hv] at hx
        exact putS_out h (.pure _ (by rw [ho]; exact .lenN t x e (tyOf_mem hty) hx))
      · rename_i b hx hty
        rw [hv] at hx
        exact putS_out h (.pure _ (by rw [ho]; exact .lenS t x b (tyOf_mem hty) hx))
      · rename_i k m e hx hty
        rw [hv] at hx
        exact putS_out h (.lenA t x e k m ho (tyOf_mem hty) hx)
      · exact h.elim
    · exact h.elim
  · rename_i args tys ho
    split at h
    · rename_i x y hargs
      have e1 : args = #[x, y] := by apply Array.toList_inj.1; simpa using hargs
      subst e1
      obtain ⟨a, ha, h⟩ := intOf_spec h
      obtain ⟨b, hb, h⟩ := intOf_spec h
      rw [hv] at ha hb
      have e : (if b < a then b else a) = Min.min a b := by omega
      exact putS_out h (.pure _ (by rw [ho]; have := PEff.min (P := P) (T := T) (ν := σ.ab.val) x y tys a b ha hb; rwa [e] at this))
    · exact h.elim
  · rename_i args tys ho
    split at h
    · rename_i x y hargs
      have e1 : args = #[x, y] := by apply Array.toList_inj.1; simpa using hargs
      subst e1
      obtain ⟨a, ha, h⟩ := intOf_spec h
      obtain ⟨b, hb, h⟩ := intOf_spec h
      rw [hv] at ha hb
      have e : (if b > a then b else a) = Max.max a b := by omega
      exact putS_out h (.pure _ (by rw [ho]; have := PEff.max (P := P) (T := T) (ν := σ.ab.val) x y tys a b ha hb; rwa [e] at this))
    · exact h.elim
  · rename_i args tys ho
    split at h
    · rename_i x y t t' hargs htys
      obtain ⟨e0, h9⟩ := beqK_iff.1 h
      subst e0
      have e1 : args = #[x, y] := by apply Array.toList_inj.1; simpa using hargs
      have e2 : tys = #[t, t] := by apply Array.toList_inj.1; simpa using htys
      subst e1; subst e2
      exact appK_out hT ho h9
    · exact h.elim
  · rename_i t x lo hi mx ho
    split at h
    · rename_i e hty
      split at h
      · rename_i ety hety
        split at h
        · rename_i xs hx
          rw [hv] at hx
          split at h
          · replace h := h.out
            obtain ⟨l, hh, h1, h2, h3, h4, h5, zs, rfl, h⟩ := h
            exact putS_out h (.pure _ (by rw [ho]; exact .sliceD t x none none e ety xs l hh (tyOf_mem hty) (tyOf_mem hety) hx h1 h2 h3 h4 h5))
          · rename_i lo
            obtain ⟨a, ha, h⟩ := intOf_spec h
            rw [hv] at ha
            replace h := h.out
            obtain ⟨l, hh, h1, h2, h3, h4, h5, zs, rfl, h⟩ := h
            exact putS_out h (.pure _ (by rw [ho]; exact .sliceD t x (some lo) none e ety xs l hh (tyOf_mem hty) (tyOf_mem hety) hx ⟨_, by rw [ha]; simp only at h1; rw [h1]⟩ h2 h3 h4 h5))
          · rename_i hi
            obtain ⟨b, hb, h⟩ := intOf_spec h
            rw [hv] at hb
            replace h := h.out
            obtain ⟨l, hh, h1, h2, h3, h4, h5, zs, rfl, h⟩ := h
            exact putS_out h (.pure _ (by rw [ho]; exact .sliceD t x none (some hi) e ety xs l hh (tyOf_mem hty) (tyOf_mem hety) hx h1 ⟨_, by rw [hb]; simp only at h2; rw [h2]⟩ h3 h4 h5))
          · rename_i lo hi
            obtain ⟨a, ha, h⟩ := intOf_spec h
            obtain ⟨b, hb, h⟩ := intOf_spec h
            rw [hv] at ha hb
            replace h := h.out
            obtain ⟨l, hh, h1, h2, h3, h4, h5, zs, rfl, h⟩ := h
            exact putS_out h (.pure _ (by rw [ho]; exact .sliceD t x (some lo) (some hi) e ety xs l hh (tyOf_mem hty) (tyOf_mem hety) hx ⟨_, by rw [ha]; simp only at h1; rw [h1]⟩ ⟨_, by rw [hb]; simp only at h2; rw [h2]⟩ h3 h4 h5))
        · rename_i k m hx
          rw [hv] at hx
          split at h
          · rename_i A hi hl
            obtain ⟨b, hb, h⟩ := intOf_spec h
            rw [hv] at hb
            replace h := h.out
            obtain ⟨hh, h1, h2, h⟩ := h
            exact putS_out h (.sliceA t x (some hi) e ety k m hh A ho (tyOf_mem hty) (tyOf_mem hety) hx (live hl) ⟨_, by rw [hb]; simp only at h1; rw [h1]⟩ h2)
          · exact h.elim
        · exact h.elim
      · exact h.elim
    · exact h.elim
  · exact h.elim
theorem dOpE_out (hT : TOK P T) {o : Oper} {σ : St} {K : St → Prop} (h : dOpE P T R o σ K) : OutE P T R o σ K := by
  unfold dOpE at h
  split at h
  · rename_i f args tys ho
    split at h
    · exact dcallK_out ho h
    · split at h
      · exact mcallK_out ho h
      · exact .inl (dOp_out hT h)
  · exact .inl (dOp_out hT h)
end
end Go.DL
