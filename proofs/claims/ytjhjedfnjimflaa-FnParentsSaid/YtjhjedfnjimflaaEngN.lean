/- Part of an evaluator of Go code on plain data, proved sound for the model: lemmas alone, for every program; each states its own conditions. -/
import Derived.Test.YtjhjedfnjimflaaEngM
namespace Go.DL
open Go.RowKit

/-- A new array in a slot of its own. -/
def newK (σ : St) (dst : Option Nat) (ks : List Nat) (s : Nat → S) (A : Arr) (K : St → Prop) : Prop :=
  match dst, σ with
  | some d, ⟨ss, c, sh⟩ => (match lkC d c with
    | none => K ⟨(d, s d) :: ss, (d, some A) :: c, ks ++ sh⟩
    | some _ => False)
  | none, _ => False

def shareS (σ : St) (ks : List Nat) : St := ⟨σ.s, σ.c, ks ++ σ.sh⟩
def putSh (σ : St) (ks : List Nat) (dst : Option Nat) (s : S) (K : St → Prop) : Prop :=
  match dst, σ with
  | some d, ⟨ss, c, sh⟩ => K ⟨(d, s) :: ss, c, ks ++ sh⟩
  | none, ⟨ss, c, sh⟩ => K ⟨ss, c, ks ++ sh⟩

@[irreducible] def andI (k : IntKind) (a b : Int) : Int := k.wrap (BitVec.ofInt k.bits a &&& BitVec.ofInt k.bits b).toNat
@[irreducible] def xorI (k : IntKind) (a b : Int) : Int := k.wrap (BitVec.ofInt k.bits a ^^^ BitVec.ofInt k.bits b).toNat
@[irreducible] def shrI (k : IntKind) (a b : Int) : Int := a.fdiv (2 ^ min b.toNat k.bits)
/-- binary operations -/
def binI (op : BinOp) (k : IntKind) (a b : Int) (K : Value → Prop) : Prop :=
  match op with
  | .add => WrK k (a + b) fun n => K (.int k n)
  | .sub => WrK k (a - b) fun n => K (.int k n)
  | .mul => WrK k (a * b) fun n => K (.int k n)
  | .and => K (.int k (andI k a b))
  | .xor => K (.int k (xorI k a b))
  | .quo => NeedK (b ≠ 0) (WrK k (a.tdiv b) fun n => K (.int k n))
  | .rem => NeedK (b ≠ 0) (K (.int k (a.tmod b)))
  | .eql => K (.bool (eqB a b))
  | .neq => K (.bool (!eqB a b))
  | .lss => K (.bool (ltB a b))
  | .leq => K (.bool (leB a b))
  | .gtr => K (.bool (ltB b a))
  | .geq => K (.bool (leB b a))
  | _ => False
def binS (op : BinOp) (a b : ByteArray) (K : Value → Prop) : Prop :=
  match op with
  | .eql => K (.bool (strEq a b))
  | .neq => K (.bool (!strEq a b))
  | .lss => K (.bool (strLt a b))
  | .geq => K (.bool (!strLt a b))
  | .leq => K (.bool (strLt a b || strEq a b))
  | .gtr => K (.bool (!(strLt a b || strEq a b)))
  | .add => NeedK (a.size + b.size ≤ 9223372036854775807) (K (.string (a ++ b)))
  | _ => False
def binB (op : BinOp) (a b : Bool) (K : Value → Prop) : Prop :=
  match op with
  | .eql => K (.bool (bEq a b))
  | .neq => K (.bool (!bEq a b))
  | _ => False
def binK (T : Tys) (op : BinOp) (t : TypeId) (x y : D) (K : D → Prop) : Prop :=
  match x, y with
  | .sc (.int .i64 a), .sc (.int .i64 b) => binI op .i64 a b fun v => K (.sc v)
  | .sc (.int .u8 a), .sc (.int .u8 b) => binI op .u8 a b fun v => K (.sc v)
  | .sc (.int .i64 a), .sc (.int .u64 b) => (match op with
    | .shr => NeedK (0 ≤ b) (K (.sc (.int .i64 (shrI .i64 a b))))
    | _ => False)
  | .sc (.string a), .sc (.string b) => binS op a b fun v => K (.sc v)
  | .sc (.bool a), .sc (.bool b) => (match tyOf t T with
    | some .bool => binB op a b fun v => K (.sc v)
    | _ => False)
  | .agg fs, .agg gs => (match tyOf t T with
    | some (.st Fs) => (match op with
      | .eql => eqsK Fs fs gs fun b => K (.sc (.bool b))
      | .neq => eqsK Fs fs gs fun b => K (.sc (.bool (!b)))
      | _ => False)
    | _ => False)
  | _, _ => False

def unK (op : UnOp) (x : D) (K : D → Prop) : Prop :=
  match op, x with
  | .not, .sc (.bool b) => K (.sc (.bool (!b)))
  | .neg, .sc (.int .i64 a) => WrK .i64 (0 - a) fun n => K (.sc (.int .i64 n))
  | _, _ => False

def intOf? (s : S) (K : Int → Prop) : Prop :=
  match s with
  | .d (.sc (.int .i64 n)) => K n
  | _ => False

def contK (σ : St) (s : S) (K : List D → Prop) : Prop :=
  match s with
  | .d (.sl xs) => K xs
  | .nil => K []
  | .av j m => match lkC j σ.c with
    | some (some A) => takeK m A.xs K
    | _ => False
  | _ => False

def mapD : List D → (List T1 → Prop) → Prop
  | [], K => K []
  | x :: r, K => mapD r fun l => K (.d x :: l)
def allSc : List D → Bool
  | [] => true
  | .sc _ :: r => allSc r
  | _ :: _ => false

/-- what a call hands back -/
def resK (σ : St) (dst : Option Nat) (ks : List Nat) (r : Res) (K : St → Prop) : Prop :=
  match r with
  | .one (.d x) => (match x with
    | .sc v => putS σ dst (.d (.sc v)) K
    | _ => putSh σ ks dst (.d x) K)
  | .one (.own ⟨e, sz, xs⟩) => newK σ dst ks (fun d => .av d xs.length) ⟨e, sz, xs⟩ K
  | .one (.ptr ⟨e, sz, xs⟩) => newK σ dst ks (fun d => .ae d 0) ⟨e, sz, xs⟩ K
  | .tup (.ptr _) _ => False
  | .tup (.d x) rest => (match x, allSc rest with
    | .sc v, true => mapD rest fun l => putS σ dst (.tup (.d (.sc v) :: l)) K
    | x, _ => mapD rest fun l => putSh σ ks dst (.tup (.d x :: l)) K)
  | .tup (.own ⟨e, sz, xs⟩) rest => mapD rest fun l => newK σ dst ks (fun d => .tup (.av d xs.length :: l)) ⟨e, sz, xs⟩ K

/-! ### Calls to which an array is lent -/
def hasAe (σ : St) : List Operand → Bool
  | [] => false
  | x :: r => (match valS σ x with
    | .ae _ _ => true
    | _ => hasAe σ r)
/-- p: a pointer is lent, and slices are handed on as data. -/
def largsK (σ : St) (p : Bool) : List Operand → Option Nat → (List A2 → List Nat → Option Nat → Prop) → Prop
  | [], l, K => K [] [] l
  | x :: r, l, K => (match valS σ x with
    | .fn f => largsK σ p r l fun as ks l' => K (.fn f :: as) ks l'
    | .ae k 0 => (match l with
      | none => largsK σ p r (some k) fun as ks l' => K (.lp :: as) ks l'
      | some _ => False)
    | .av k m => (match p, l with
      | false, none => (match lkC k σ.c with
        | some (some A) => NeedK (m = A.xs.length) (largsK σ p r (some k) fun as ks l' => K (.lv :: as) ks l')
        | _ => False)
      | _, _ => toDS σ (.av k m) fun d ks => largsK σ p r l fun as ks' l' => K (.d d :: as) (ks ++ ks') l')
    | .d x => largsK σ p r l fun as ks l' => K (.d x :: as) ks l'
    | .nil => largsK σ p r l fun as ks l' => K (.d (.sl []) :: as) ks l'
    | _ => False)
def resPutK (σ : St) (dst : Option Nat) (ks : List Nat) (r : Res) (K : St → Prop) : Prop :=
  match r with
  | .one (.d x) => putSh σ ks dst (.d x) K
  | .one (.own ⟨e, sz, xs⟩) => newK σ dst ks (fun d => .av d xs.length) ⟨e, sz, xs⟩ K
  | .one (.ptr ⟨e, sz, xs⟩) => newK σ dst ks (fun d => .ae d 0) ⟨e, sz, xs⟩ K
  | .tup (.d x) rest => mapD rest fun l => putSh σ ks dst (.tup (.d x :: l)) K
  | .tup (.own ⟨e, sz, xs⟩) rest => mapD rest fun l => newK σ dst ks (fun d => .tup (.av d xs.length :: l)) ⟨e, sz, xs⟩ K
  | .tup (.ptr _) _ => False
def lcallK (P : Program) (σ : St) (dst : Option Nat) (f : FuncId) (args : List Operand) (K : St → Prop) : Prop :=
  largsK σ (hasAe σ args) args none fun as ks l => (match l with
    | some k => (match lkC k σ.c, memB k (ks ++ σ.sh) with
      | some (some ⟨e, sz, xs⟩), false => LCallK P f as ⟨e, sz, xs⟩ fun r xs' => resPutK ⟨σ.s, (k, some ⟨e, sz, xs'⟩) :: σ.c, σ.sh⟩ dst ks r K
      | _, _ => False)
    | none => False)
def dcallK (P : Program) (σ : St) (dst : Option Nat) (f : FuncId) (args : List Operand) (K : St → Prop) : Prop :=
  largsK σ (hasAe σ args) args none fun as ks l => (match l with
    | some k => (match lkC k σ.c, memB k (ks ++ σ.sh) with
      | some (some ⟨e, sz, xs⟩), false => DCallK P f as (some ⟨e, sz, xs⟩) fun r xs' => resPutK ⟨σ.s, (k, some ⟨e, sz, xs'⟩) :: σ.c, σ.sh⟩ dst ks r K
      | _, _ => False)
    | none => DCallK P f as none fun r _ => resPutK σ dst ks r K)

def callK (P : Program) (σ : St) (dst : Option Nat) (fx : S) (args : List Operand) (K : St → Prop) : Prop :=
  match fx with
  | .fn f => argsK σ args fun as ks => CallK P f as fun r => resK σ dst ks r K
  | _ => False

def lenK (T : Tys) (σ : St) (t : TypeId) (s : S) (K : Int → Prop) : Prop :=
  match s, tyOf t T with
  | .d (.sl xs), some (.sl _) => K xs.length
  | .nil, some (.sl _) => K 0
  | .d (.sc (.string b)), some .str => K b.size
  | .av k m, some (.sl _) => (match lkC k σ.c with | some (some _) => K m | _ => False)
  | _, _ => False

def appFin (σ : St) (dst : Option Nat) (k n : Nat) (A : Arr) (K : St → Prop) : Prop :=
  match dst, σ with
  | some d, ⟨ss, c, sh⟩ => (match lkC d c, memB d sh with
    | none, false => K ⟨(d, .av d n) :: ss, (d, some A) :: (k, none) :: c, sh⟩
    | _, _ => False)
  | none, _ => False

def appK (T : Tys) (σ : St) (dst : Option Nat) (t : TypeId) (x y : S) (K : St → Prop) : Prop :=
  match tyOf t T with
  | some (.sl e) => (match tyOf e T with
    | some ety => (match x with
      | .av k m => (match lkC k σ.c, memB k σ.sh with
        | some (some ⟨e', sz, xs⟩), false => beqK e' e (beqK ety.width sz (contK σ y fun ys => AppK xs m ys ety.width fun n xs' =>
            appFin σ dst k n ⟨e', sz, xs'⟩ K))
        | _, _ => False)
      | .nil => (match ety.width with
        | 0 => False
        | _ + 1 => contK σ y fun ys => AppK [] 0 ys ety.width fun n xs' => newK σ dst [] (fun d => .av d n) ⟨e, ety.width, xs'⟩ K)
      | _ => False)
    | none => False)
  | _ => False

/-- One operation. -/
def dOp (P : Program) (T : Tys) (R : List Nat) (o : Oper) (σ : St) (K : St → Prop) : Prop :=
  match o.op with
  | .move x => forceS (valS σ x) fun s => putS σ o.dst s K
  | .assign x => forceS (valS σ x) fun s => putS σ o.dst s K
  | .pick c a b => (match valS σ c with
    | .d (.sc (.bool t)) => brM t (forceS (valS σ a) fun s => putS σ o.dst s K) (forceS (valS σ b) fun s => putS σ o.dst s K)
    | _ => False)
  | .binOp op t x y _ => (match valS σ x, valS σ y with
    | .d dx, .d dy => binK T op t dx dy fun r => putS σ o.dst (.d r) K
    | _, _ => False)
  | .unOp op _ x => (match valS σ x with
    | .d dx => unK op dx fun r => putS σ o.dst (.d r) K
    | _ => False)
  | .alloc t => (match tyOf t T with
    | some ty => (match ty.width with
      | 0 => False
      | _ + 1 => zeroTy ty fun z => newK σ o.dst [] (fun d => .ae d 0) ⟨t, ty.width, [z]⟩ K)
    | none => False)
  | .box t x => toDS σ (valS σ x) fun y ks => (match y.width with
    | 0 => False
    | _ + 1 => newK σ o.dst ks (fun d => .ae d 0) ⟨t, y.width, [y]⟩ K)
  | .build t parts => (match tyOf t T with
    | some (.st Fs) => partsK σ parts.toList fun ds ks => (match ds.all (·.isCell) with
      | true => zerosF Fs fun zs => setsK parts.toList ds zs fun xs => putSh σ ks o.dst (.d (.agg xs)) K
      | false => False)
    | _ => False)
  | .buildSlice t len parts => (match tyOf t T with
    | some (.sl e) => (match tyOf e T with
      | some ety => partsK σ parts.toList fun ds ks => (match ds.all (fun d => Nat.beq d.width ety.width), ety.width, Nat.ble (len * ety.width) 16777216 with
        | true, _ + 1, true => zeroTy ety fun z => setsK parts.toList ds (List.replicate len z) fun xs => newK σ o.dst ks (fun d => .av d len) ⟨e, ety.width, xs⟩ K
        | _, _, _ => False)
      | none => False)
    | _ => False)
  | .makeSlice t x y => (match tyOf t T with
    | some (.sl e) => (match tyOf e T with
      | some ety => intOf? (valS σ x) fun a => intOf? (valS σ y) fun b => MkK a b fun m => (match ety.width with
        | 0 => False
        | _ + 1 => zeroTy ety fun z => newK σ o.dst [] (fun d => .av d m) ⟨e, ety.width, List.replicate m z⟩ K)
      | none => False)
    | _ => False)
  | .load t x => (match tyOf t T with
    | some ty => (match valS σ x with
      | .el y => fitK ty y (putS σ o.dst (.d y) K)
      | .ae k i => (match lkC k σ.c with
        | some (some A) => getK A.xs i fun y => fitK ty y (putS σ o.dst (.d y) K)
        | _ => False)
      | .af k i f => (match lkC k σ.c with
        | some (some A) => getK A.xs i fun y => (match y with
          | .agg fs => getK fs f fun z => fitK ty z (putS σ o.dst (.d z) K)
          | _ => False)
        | _ => False)
      | _ => False)
    | none => False)
  | .store t x y => (match tyOf t T with
    | some ty => (match valS σ x with
      | .ae k i => toDS σ (valS σ y) fun z ks => (match lkC k σ.c, memB k (ks ++ σ.sh) with
        | some (some ⟨e, sz, xs⟩), false => beqK z.width sz (beqK ty.width sz (setK xs i z fun xs' => putSh ⟨σ.s, (k, some ⟨e, sz, xs'⟩) :: σ.c, σ.sh⟩ ks o.dst .un K))
        | _, _ => False)
      | .af k i f => toDS σ (valS σ y) fun z ks => (match lkC k σ.c, memB k (ks ++ σ.sh), z.isCell with
        | some (some ⟨e, sz, xs⟩), false, true => beqK ty.width 1 (getK xs i fun w => (match w with
          | .agg fs => setK fs f z fun fs' => setK xs i (.agg fs') fun xs' => putSh ⟨σ.s, (k, some ⟨e, sz, xs'⟩) :: σ.c, σ.sh⟩ ks o.dst .un K
          | _ => False))
        | _, _, _ => False)
      | _ => False)
    | none => False)
  | .fieldAddr t x f => (match tyOf t T with
    | some (.st Fs) => (match valS σ x with
      | .el (.agg fs) => beqK Fs.length fs.length (getK fs f fun z => putS σ o.dst (.el z) K)
      | .ae k i => (match lkC k σ.c, Nat.blt f Fs.length with
        | some (some _), true => putS σ o.dst (.af k i f) K
        | _, _ => False)
      | _ => False)
    | _ => False)
  | .field t x f => (match tyOf t T with
    | some (.st Fs) => (match valS σ x with
      | .d (.agg fs) => beqK Fs.length fs.length (getK fs f fun z => putS σ o.dst (.d z) K)
      | _ => False)
    | _ => False)
  | .indexAddr t x ix => (match tyOf t T with
    | some (.sl e) => (match tyOf e T with
      | some ety => (match valS σ x with
        | .d (.sl xs) => intOf? (valS σ ix) fun j => IxK xs j fun y => beqK y.width ety.width (putS σ o.dst (.el y) K)
        | .av k m => (match lkC k σ.c with
          | some (some A) => intOf? (valS σ ix) fun j => beqK ety.width A.sz (IxA j m fun i => putS σ o.dst (.ae k i) K)
          | _ => False)
        | _ => False)
      | none => False)
    | _ => False)
  | .index t x ix => (match tyOf t T with
    | some .str => (match valS σ x with
      | .d (.sc (.string s)) => intOf? (valS σ ix) fun j => StrK s j fun b => putS σ o.dst (.d (.sc (.int .u8 b.toNat))) K
      | _ => False)
    | _ => False)
  | .extract x i => (match valS σ x with
    | .tup xs => getK xs i fun r => (match r with
      | .d y => putS σ o.dst (.d y) K
      | .av k m => putS σ o.dst (.av k m) K)
    | _ => False)
  | .makeFunc fn first captured => (match fn, first.toList, captured.toList with
    | .func f, [], [] => putS σ o.dst (.fn f) K
    | _, _, _ => False)
  | .call { callee := .value fx, args, .. } => (match fx with
    | .func f => (match memB (100000 + f) R with
      | true => lcallK P σ o.dst f args.toList K
      | false => callK P σ o.dst (valS σ fx) args.toList K)
    | _ => callK P σ o.dst (valS σ fx) args.toList K)
  | .nilCheck x => (match valS σ x with
    | .ae k i => (match lkC k σ.c with
      | some (some _) => putS σ o.dst (.ae k i) K
      | _ => False)
    | _ => False)
  | .convert src dst x => (match tyOf src T, tyOf dst T, valS σ x with
    | some _, some .int, .d (.sc (.int _ m)) => WrK .i64 m fun n => putS σ o.dst (.d (.sc (.int .i64 n))) K
    | _, _, _ => False)
  | .call { callee := .builtin .len, args, argTypes } => (match args.toList, argTypes.toList with
    | [x], [t] => lenK T σ t (valS σ x) fun n => putS σ o.dst (.d (.sc (.int .i64 n))) K
    | _, _ => False)
  | .call { callee := .builtin .min, args, .. } => (match args.toList with
    | [x, y] => intOf? (valS σ x) fun a => intOf? (valS σ y) fun b => putS σ o.dst (.d (.sc (.int .i64 (Min.min a b)))) K
    | _ => False)
  | .call { callee := .builtin .max, args, .. } => (match args.toList with
    | [x, y] => intOf? (valS σ x) fun a => intOf? (valS σ y) fun b => putS σ o.dst (.d (.sc (.int .i64 (Max.max a b)))) K
    | _ => False)
  | .call { callee := .builtin .append, args, argTypes } => (match args.toList, argTypes.toList with
    | [x, y], [t, t'] => beqK t t' (appK T σ o.dst t (valS σ x) (valS σ y) K)
    | _, _ => False)
  | .slice t x lo hi mx => (match mx, tyOf t T with
    | none, some (.sl e) => (match tyOf e T with
      | some ety => (match valS σ x with
        | .d (.sl xs) => (match lo, hi with
          | none, none => SlK xs ety.width none none fun zs => putS σ o.dst (.d (.sl zs)) K
          | some l, none => intOf? (valS σ l) fun a => SlK xs ety.width (some a) none fun zs => putS σ o.dst (.d (.sl zs)) K
          | none, some h => intOf? (valS σ h) fun b => SlK xs ety.width none (some b) fun zs => putS σ o.dst (.d (.sl zs)) K
          | some l, some h => intOf? (valS σ l) fun a => intOf? (valS σ h) fun b => SlK xs ety.width (some a) (some b) fun zs => putS σ o.dst (.d (.sl zs)) K)
        | .av k m => (match lkC k σ.c, lo, hi with
          | some (some _), none, some h => intOf? (valS σ h) fun b => SlA m (some b) fun n => putS σ o.dst (.av k n) K
          | _, _, _ => False)
        | _ => False)
      | none => False)
    | _, _ => False)
  | _ => False
/-- One operation, where calls may have results that are known by a property. -/
def dOpE (P : Program) (T : Tys) (R : List Nat) (o : Oper) (σ : St) (K : St → Prop) : Prop :=
  match o.op with
  | .call { callee := .value (.func f), args, .. } => (match memB (200000 + f) R with
    | true => dcallK P σ o.dst f args.toList K
    | false => dOp P T R o σ K)
  | _ => dOp P T R o σ K
end Go.DL
