/- Part of an evaluator of Go code on plain data, proved sound for the model: lemmas alone, for every program; each states its own conditions. -/
import Derived.Test.YtjhjedfnjimflaaEngL
namespace Go.DL
open Go.RowKit

/-! ### The state as lists -/
structure St where
  s : List (Nat × S)
  c : List (Nat × Option Arr)
  sh : List Nat

def lkS (t : Nat) : List (Nat × S) → S
  | [] => .junk
  | (j, s) :: r => match Nat.beq t j with
    | true => s
    | false => lkS t r
def lkC (k : Nat) : List (Nat × Option Arr) → Option (Option Arr)
  | [] => none
  | (j, a) :: r => match Nat.beq k j with
    | true => some a
    | false => lkC k r
def memB (k : Nat) : List Nat → Bool
  | [] => false
  | j :: r => match Nat.beq k j with
    | true => true
    | false => memB k r
def tyOf (t : Nat) : Tys → Option Ty
  | [] => none
  | (j, ty) :: r => match Nat.beq t j with
    | true => some ty
    | false => tyOf t r

def St.ab (σ : St) : Ab :=
  { s := fun t => lkS t σ.s, c := fun k => match lkC k σ.c with | some (some A) => some A | _ => none, sh := fun k => memB k σ.sh, us := fun k => (lkC k σ.c).isSome }

theorem beq_iff (a b : Nat) : Nat.beq a b = true ↔ a = b := ⟨Nat.eq_of_beq_eq_true, fun h => by subst h; exact Nat.beq_refl a⟩
theorem beq_not (a b : Nat) : Nat.beq a b = false ↔ a ≠ b := by
  rw [← Bool.not_eq_true, beq_iff]

theorem lkS_cons (t j : Nat) (s : S) (r : List (Nat × S)) : lkS t ((j, s) :: r) = if t = j then s else lkS t r := by
  simp only [lkS]
  cases h : Nat.beq t j with
  | true => rw [if_pos ((beq_iff t j).1 h)]
  | false => rw [if_neg ((beq_not t j).1 h)]
theorem lkC_cons (t j : Nat) (s : Option Arr) (r : List (Nat × Option Arr)) : lkC t ((j, s) :: r) = if t = j then some s else lkC t r := by
  simp only [lkC]
  cases h : Nat.beq t j with
  | true => rw [if_pos ((beq_iff t j).1 h)]
  | false => rw [if_neg ((beq_not t j).1 h)]
theorem memB_iff (k : Nat) (l : List Nat) : memB k l = l.contains k := by
  induction l with
  | nil => rfl
  | cons j r ih =>
    simp only [memB, ih]
    cases h : Nat.beq k j with
    | true => simp [(beq_iff k j).1 h]
    | false => simp [(beq_not k j).1 h]
theorem tyOf_mem {t : Nat} {T : Tys} {ty : Ty} (h : tyOf t T = some ty) : (t, ty) ∈ T := by
  induction T with
  | nil => cases h
  | cons p r ih =>
    obtain ⟨j, a⟩ := p
    simp only [tyOf] at h
    cases hb : Nat.beq t j with
    | true =>
      rw [hb] at h
      have e : a = ty := by simpa using h
      rw [(beq_iff t j).1 hb, e]
      exact List.mem_cons_self
    | false => rw [hb] at h; exact List.mem_cons_of_mem _ (ih h)

def valS (σ : St) : Operand → S
  | .tmp t => lkS t σ.s
  | .const v => constS v
  | .global _ => .junk
  | .func f => .fn f

theorem valS_ab (σ : St) (x : Operand) : valS σ x = σ.ab.val x := by cases x <;> rfl

/-! ### Branches, obligations -/
def brM (b : Bool) (A B : Prop) : Prop :=
  match b with
  | true => A
  | false => B
theorem brM_intro {b : Bool} {A B : Prop} (h1 : b = true → A) (h2 : b = false → B) : brM b A B := by
  cases b
  · exact h2 rfl
  · exact h1 rfl

@[irreducible] def ltB (a b : Int) : Bool := decide (a < b)
@[irreducible] def leB (a b : Int) : Bool := decide (a ≤ b)
@[irreducible] def eqB (a b : Int) : Bool := a == b
@[irreducible] def strEq (a b : ByteArray) : Bool := a.toList == b.toList
@[irreducible] def strLt (a b : ByteArray) : Bool := Op.bytesLess a.toList b.toList
@[irreducible] def bEq (a b : Bool) : Bool := a == b

structure WrK (k : IntKind) (n : Int) (K : Int → Prop) : Prop where
  out : K (k.wrap n)
structure IxK (xs : List D) (j : Int) (K : D → Prop) : Prop where
  out : 0 ≤ j ∧ ∃ y, xs[j.toNat]? = some y ∧ K y
structure IxA (j : Int) (m : Nat) (K : Nat → Prop) : Prop where
  out : ∃ i : Nat, j = i ∧ i < m ∧ K i
structure StrK (s : ByteArray) (j : Int) (K : UInt8 → Prop) : Prop where
  out : 0 ≤ j ∧ ∃ b, s[j.toNat]? = some b ∧ K b
structure CallK (P : Program) (f : FuncId) (as : List A1) (K : Res → Prop) : Prop where
  out : ∃ r, Contract P f as r ∧ K r
structure LCallK (P : Program) (f : FuncId) (as : List A2) (A : Arr) (K : Res → List D → Prop) : Prop where
  out : ∃ r xs, LContract P f as (some A) (fun r' xs' => r' = r ∧ xs' = xs) ∧ K r xs
structure DCallK (P : Program) (f : FuncId) (as : List A2) (A : Option Arr) (K : Res → List D → Prop) : Prop where
  out : ∃ R, LContract P f as A R ∧ ∀ r xs, R r xs → K r xs
structure NeedK (p K : Prop) : Prop where
  out : p ∧ K
structure MkK (a b : Int) (K : Nat → Prop) : Prop where
  out : ∃ m : Nat, a = m ∧ b = m ∧ m ≤ 34359738368 ∧ K m
structure AppK (xs : List D) (m : Nat) (ys : List D) (w : Nat) (K : Nat → List D → Prop) : Prop where
  out : ∃ n xs', n = m + ys.length ∧ xs' = xs.take m ++ ys ∧ n ≤ 34359738368 ∧ (∀ y ∈ ys, y.width = w) ∧ K n xs'
structure SlK (xs : List D) (w : Nat) (lo hi : Option Int) (K : List D → Prop) : Prop where
  out : ∃ l h : Nat, (match lo with | some a => a = l | none => l = 0) ∧ (match hi with | some a => a = h | none => h = xs.length) ∧ l ≤ h ∧ h ≤ xs.length ∧ (∀ y ∈ xs, y.width = w) ∧ ∃ zs, zs = (xs.take h).drop l ∧ K zs
structure SlA (m : Nat) (hi : Option Int) (K : Nat → Prop) : Prop where
  out : ∃ h : Nat, (match hi with | some a => a = h | none => h = m) ∧ h ≤ m ∧ K h

/-- the i-th of a list -/
def getK {α : Type} : List α → Nat → (α → Prop) → Prop
  | x :: _, 0, K => K x
  | _ :: r, i + 1, K => getK r i K
  | [], _, _ => False
theorem getK_iff {α : Type} {xs : List α} {i : Nat} {K : α → Prop} : getK xs i K ↔ ∃ y, xs[i]? = some y ∧ K y := by
  induction xs generalizing i with
  | nil => simp [getK]
  | cons x r ih =>
    cases i with
    | zero => simp [getK]
    | succ i => simpa [getK] using ih
theorem getK_intro {α : Type} {xs : List α} {i : Nat} {K : α → Prop} {y : α} (h : xs[i]? = some y) (hK : K y) : getK xs i K := getK_iff.2 ⟨y, h, hK⟩

def setK {α : Type} : List α → Nat → α → (List α → Prop) → Prop
  | _ :: r, 0, y, K => K (y :: r)
  | x :: r, i + 1, y, K => setK r i y (fun r' => K (x :: r'))
  | [], _, _, _ => False
theorem setK_iff {α : Type} {xs : List α} {i : Nat} {y : α} {K : List α → Prop} : setK xs i y K ↔ i < xs.length ∧ K (xs.set i y) := by
  induction xs generalizing i K with
  | nil => simp [setK]
  | cons x r ih =>
    cases i with
    | zero => simp [setK]
    | succ i => simp [setK, ih]
theorem setK_intro {α : Type} {xs : List α} {i : Nat} {y : α} {K : List α → Prop} (h : i < xs.length) {xs' : List α} (he : xs' = xs.set i y) (hK : K xs') : setK xs i y K := setK_iff.2 ⟨h, he ▸ hK⟩

def takeK {α : Type} : Nat → List α → (List α → Prop) → Prop
  | 0, _, K => K []
  | m + 1, x :: r, K => takeK m r (fun r' => K (x :: r'))
  | _ + 1, [], K => K []
theorem takeK_iff {α : Type} {m : Nat} {xs : List α} {K : List α → Prop} : takeK m xs K ↔ K (xs.take m) := by
  induction m generalizing xs K with
  | zero => simp [takeK]
  | succ m ih =>
    cases xs with
    | nil => simp [takeK]
    | cons x r => simp [takeK, ih]
theorem takeK_intro {α : Type} {m : Nat} {xs : List α} {K : List α → Prop} {xs' : List α} (h : xs' = xs.take m) (hK : K xs') : takeK m xs K := takeK_iff.2 (h ▸ hK)
theorem takeK_full {α : Type} {m : Nat} {xs : List α} {K : List α → Prop} (h : m = xs.length) (hK : K xs) : takeK m xs K := takeK_intro (by rw [h, List.take_length]) hK

theorem WrK_i64 {n : Int} {K : Int → Prop} (h1 : -9223372036854775808 ≤ n) (h2 : n ≤ 9223372036854775807) (hK : K n) : WrK .i64 n K := by
  refine ⟨?_⟩
  rw [IntKind.wrap_i64]
  have : (n + 9223372036854775808) % 18446744073709551616 - 9223372036854775808 = n := by omega
  rw [this]
  exact hK
theorem IxK_intro {xs : List D} {j : Int} {K : D → Prop} (i : Nat) (hj : j = i) {y : D} (h : xs[i]? = some y) (hK : K y) : IxK xs j K := by
  refine ⟨?_⟩
  subst hj
  exact ⟨by omega, y, by simpa using h, hK⟩
theorem IxA_intro {j : Int} {m : Nat} {K : Nat → Prop} (i : Nat) (hj : j = i) (h : i < m) (hK : K i) : IxA j m K := by
  refine ⟨?_⟩; exact ⟨i, hj, h, hK⟩
theorem StrK_intro {s : ByteArray} {j : Int} {K : UInt8 → Prop} (i : Nat) (hj : j = i) {b : UInt8} (h : s[i]? = some b) (hK : K b) : StrK s j K := by
  refine ⟨?_⟩
  subst hj
  exact ⟨by omega, b, by simpa using h, hK⟩
theorem CallK_intro {P : Program} {f : FuncId} {as : List A1} {r : Res} {K : Res → Prop} (h : Contract P f as r) (hK : K r) : CallK P f as K := by refine ⟨?_⟩; exact ⟨r, h, hK⟩
theorem LCallK_intro {P : Program} {f : FuncId} {as : List A2} {A : Arr} {r : Res} {xs : List D} {K : Res → List D → Prop} (h : LContract P f as (some A) (fun r' xs' => r' = r ∧ xs' = xs)) (hK : K r xs) : LCallK P f as A K := by refine ⟨?_⟩; exact ⟨r, xs, h, hK⟩
theorem DCallK_intro {P : Program} {f : FuncId} {as : List A2} {A : Option Arr} {R : Res → List D → Prop} {K : Res → List D → Prop} (h : LContract P f as A R) (hK : ∀ r xs, R r xs → K r xs) : DCallK P f as A K := by refine ⟨?_⟩; exact ⟨R, h, hK⟩
theorem WrK_any {k : IntKind} {n : Int} {K : Int → Prop} (hK : K (k.wrap n)) : WrK k n K := ⟨hK⟩
theorem NeedK_intro {p K : Prop} (h : p) (hK : K) : NeedK p K := by refine ⟨?_⟩; exact ⟨h, hK⟩
theorem MkK_intro {a b : Int} {K : Nat → Prop} (m : Nat) (h1 : a = m) (h2 : b = m) (h3 : m ≤ 34359738368) (hK : K m) : MkK a b K := by refine ⟨?_⟩; exact ⟨m, h1, h2, h3, hK⟩
theorem AppK_intro {xs : List D} {m : Nat} {ys : List D} {w : Nat} {K : Nat → List D → Prop} {n : Nat} {xs' : List D} (h1 : n = m + ys.length) (h2 : xs' = xs.take m ++ ys) (h3 : n ≤ 34359738368) (h4 : ∀ y ∈ ys, y.width = w) (hK : K n xs') :
    AppK xs m ys w K := by refine ⟨?_⟩; exact ⟨n, xs', h1, h2, h3, h4, hK⟩
theorem SlK_intro {xs : List D} {w : Nat} {lo hi : Option Int} {K : List D → Prop} (l h : Nat) (h1 : match lo with | some a => a = l | none => l = 0) (h2 : match hi with | some a => a = h | none => h = xs.length) (h3 : l ≤ h) (h4 : h ≤ xs.length)
    (h5 : ∀ y ∈ xs, y.width = w) {zs : List D} (h6 : zs = (xs.take h).drop l) (hK : K zs) : SlK xs w lo hi K := by refine ⟨?_⟩; exact ⟨l, h, h1, h2, h3, h4, h5, zs, h6, hK⟩
theorem SlA_intro {m : Nat} {hi : Option Int} {K : Nat → Prop} (h : Nat) (h1 : match hi with | some a => a = h | none => h = m) (h2 : h ≤ m) (hK : K h) : SlA m hi K := by refine ⟨?_⟩; exact ⟨h, h1, h2, hK⟩

/-! ### The evaluator: one operation -/
def forceS (s : S) (K : S → Prop) : Prop :=
  match s with
  | .junk => K .junk
  | .un => K .un
  | .nil => K .nil
  | .d x => K (.d x)
  | .el x => K (.el x)
  | .av k m => K (.av k m)
  | .ae k i => K (.ae k i)
  | .af k i f => K (.af k i f)
  | .fn f => K (.fn f)
  | .tup xs => K (.tup xs)
theorem forceS_eq (s : S) (K : S → Prop) : forceS s K = K s := by cases s <;> rfl

def putS (σ : St) (dst : Option Nat) (s : S) (K : St → Prop) : Prop :=
  match dst, σ with
  | some d, ⟨ss, c, sh⟩ => K ⟨(d, s) :: ss, c, sh⟩
  | none, σ => K σ

def toDS (σ : St) (s : S) (K : D → List Nat → Prop) : Prop :=
  match s with
  | .d x => K x []
  | .nil => K (.sl []) []
  | .av j m => match lkC j σ.c with
    | some (some A) => takeK m A.xs (fun xs => K (.sl xs) [j])
    | _ => False
  | _ => False

def argK (σ : St) (s : S) (K : A1 → List Nat → Prop) : Prop :=
  match s with
  | .fn f => K (.fn f) []
  | .d x => K (.d x) []
  | s => toDS σ s fun x ks => K (.d x) ks
def argsK (σ : St) : List Operand → (List A1 → List Nat → Prop) → Prop
  | [], K => K [] []
  | x :: r, K => argK σ (valS σ x) fun a ks => argsK σ r fun as ks' => K (a :: as) (ks ++ ks')

def partsK (σ : St) : List (Nat × Operand) → (List D → List Nat → Prop) → Prop
  | [], K => K [] []
  | (_, x) :: r, K => toDS σ (valS σ x) fun a ks => partsK σ r fun as ks' => K (a :: as) (ks ++ ks')
def setsK : List (Nat × Operand) → List D → List D → (List D → Prop) → Prop
  | (i, _) :: ps, d :: ds, xs, K => setK xs i d fun xs' => setsK ps ds xs' K
  | [], _, xs, K => K xs
  | _, [], xs, K => K xs

def zeroF (f : F) (K : D → Prop) : Prop :=
  match f with
  | .int => K (.sc (.int .i64 0)) | .bool => K (.sc (.bool false)) | .str => K (.sc (.string ⟨#[]⟩)) | .sl => K (.sl [])
def zerosF : List F → (List D → Prop) → Prop
  | [], K => K []
  | f :: r, K => zeroF f fun d => zerosF r fun ds => K (d :: ds)
def zeroTy (ty : Ty) (K : D → Prop) : Prop :=
  match ty with
  | .int => K (.sc (.int .i64 0)) | .u8 => K (.sc (.int .u8 0)) | .bool => K (.sc (.bool false)) | .str => K (.sc (.string ⟨#[]⟩)) | .sl _ => K (.sl [])
  | .st fs => zerosF fs fun ds => K (.agg ds)

theorem zerosF_eq (fs : List F) (K : List D → Prop) : zerosF fs K = K (fs.map F.zeroD) := by
  induction fs generalizing K with
  | nil => rfl
  | cons f r ih => cases f <;> simp only [zerosF, zeroF, ih] <;> rfl
theorem zeroTy_eq (ty : Ty) (K : D → Prop) : zeroTy ty K = K ty.zeroD := by
  cases ty with
  | st fs => simp only [zeroTy, zerosF_eq]; rfl
  | _ => rfl

def fitK (ty : Ty) (y : D) (K : Prop) : Prop :=
  match ty, y with
  | .st fs, .agg gs => (match Nat.beq fs.length gs.length with | true => K | false => False)
  | .st _, _ => False
  | _, .agg _ => False
  | _, _ => K
theorem fitK_iff {ty : Ty} {y : D} {K : Prop} : fitK ty y K ↔ LoadFit ty y ∧ K := by
  cases ty <;> cases y <;> simp [fitK, LoadFit]
  rename_i fs gs
  cases h : Nat.beq fs.length gs.length with
  | true => simp [(beq_iff _ _).1 h]
  | false => simp [(beq_not _ _).1 h]

def beqK (a b : Nat) (K : Prop) : Prop :=
  match Nat.beq a b with
  | true => K
  | false => False
theorem beqK_iff {a b : Nat} {K : Prop} : beqK a b K ↔ a = b ∧ K := by
  unfold beqK
  cases h : Nat.beq a b with
  | true => simp [(beq_iff _ _).1 h]
  | false => simp [(beq_not _ _).1 h]

/-- equality of structs, field by field -/
def eq1K (f : F) (a b : D) (K : Bool → Prop) : Prop :=
  match f, a, b with
  | .int, .sc (.int .i64 x), .sc (.int .i64 y) => K (eqB x y)
  | .bool, .sc (.bool x), .sc (.bool y) => K (bEq x y)
  | .str, .sc (.string x), .sc (.string y) => K (strEq x y)
  | _, _, _ => False
def eqsK : List F → List D → List D → (Bool → Prop) → Prop
  | [], fs, gs, K => (match fs, gs with | [], [] => K true | _, _ => False)
  | f :: Fs, fs, gs, K => (match fs, gs with
    | a :: fs, b :: gs => eq1K f a b fun r1 => eqsK Fs fs gs fun r => K (r1 && r)
    | _, _ => False)

theorem eq1K_spec {f : F} {a b : D} {K : Bool → Prop} (h : eq1K f a b K) : ∃ r1, K r1 ∧ ∀ {Fs : List F} {fs gs : List D} {r : Bool}, EqFs Fs fs gs r → EqFs (f :: Fs) (a :: fs) (b :: gs) (r1 && r) := by
  unfold eq1K at h
  split at h
  · exact ⟨_, h, fun hr => by unfold eqB; exact .int _ _ hr⟩
  · exact ⟨_, h, fun hr => by unfold bEq; exact .bool _ _ hr⟩
  · exact ⟨_, h, fun hr => by unfold strEq; exact .str _ _ hr⟩
  · exact h.elim

theorem eqsK_spec {Fs : List F} : ∀ {fs gs : List D} {K : Bool → Prop}, eqsK Fs fs gs K → ∃ b, EqFs Fs fs gs b ∧ K b := by
  induction Fs with
  | nil =>
    intro fs gs K h
    cases fs <;> cases gs <;> first | exact ⟨true, .nil, h⟩ | exact h.elim
  | cons f Fs ih =>
    intro fs gs K h
    cases fs with
    | nil => exact h.elim
    | cons a fs =>
      cases gs with
      | nil => exact h.elim
      | cons b gs =>
        obtain ⟨r1, h1, h2⟩ := eq1K_spec (K := fun r1 => eqsK Fs fs gs fun r => K (r1 && r)) h
        obtain ⟨r, hr, hK⟩ := ih h1
        exact ⟨_, h2 hr, hK⟩
end Go.DL
