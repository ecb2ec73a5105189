/- Part of an evaluator of Go code on plain data, proved sound for the model: lemmas alone, for every program; each states its own conditions. -/
import Derived.Test.YtjhjedfnjimflaaEngC
namespace Go.DL
open Go.RowKit

def BinOK (P : Program) (op : BinOp) (t : TypeId) (u v r : Value) : Prop :=
  r.oneCell' = true ∧ ∀ (x y : Operand) (w : World), (do eqGuard op t x y u v; binOp op t u v : Sem Value).run P w = .ok r w

def UnOK (op : UnOp) (u r : Value) : Prop := r.oneCell' = true ∧ ∀ (P : Program) (w : World), (Op.unary op u).run P w = .ok r w

/-- Equality of two structs, field by field. -/
inductive EqFs : List F → List D → List D → Bool → Prop
  | nil : EqFs [] [] [] true
  | int (a b : Int) {r : Bool} {Fs : List F} {fs gs : List D} (h : EqFs Fs fs gs r) : EqFs (.int :: Fs) (.sc (.int .i64 a) :: fs) (.sc (.int .i64 b) :: gs) ((a == b) && r)
  | bool (a b : Bool) {r : Bool} {Fs : List F} {fs gs : List D} (h : EqFs Fs fs gs r) : EqFs (.bool :: Fs) (.sc (.bool a) :: fs) (.sc (.bool b) :: gs) ((a == b) && r)
  | str (a b : ByteArray) {r : Bool} {Fs : List F} {fs gs : List D} (h : EqFs Fs fs gs r) : EqFs (.str :: Fs) (.sc (.string a) :: fs) (.sc (.string b) :: gs) ((a.toList == b.toList) && r)

def T1.toS : T1 → S
  | .d x => .d x
  | .av k m => .av k m

/-- The value of a bound of a slice expression. -/
def boundOf (ν : Operand → S) (o : Option Operand) (dflt : Nat) (r : Nat) : Prop :=
  match o with
  | none => r = dflt
  | some x => ∃ k, ν x = .d (.sc (.int k (r : Int)))

/-- Operations on slots alone. -/
inductive PEff (P : Program) (T : Tys) : Op → (Operand → S) → S → Prop
  | move {ν} (x : Operand) : PEff P T (.move x) ν (ν x)
  | assign {ν} (x : Operand) : PEff P T (.assign x) ν (ν x)
  | pick {ν} (c a b : Operand) (t : Bool) (h : ν c = .d (.sc (.bool t))) : PEff P T (.pick c a b) ν (if t then ν a else ν b)
  | bin {ν} (op : BinOp) (t : TypeId) (x y : Operand) (yt : TypeId) (u v r : Value) (hx : ν x = .d (.sc u)) (hy : ν y = .d (.sc v)) (h : BinOK P op t u v r) :
      PEff P T (.binOp op t x y yt) ν (.d (.sc r))
  | eqA {ν} (t : TypeId) (x y : Operand) (yt : TypeId) (Fs : List F) (fs gs : List D) (b : Bool) (hT : (t, .st Fs) ∈ T) (hx : ν x = .d (.agg fs)) (hy : ν y = .d (.agg gs)) (he : EqFs Fs fs gs b) :
      PEff P T (.binOp .eql t x y yt) ν (.d (.sc (.bool b)))
  | neA {ν} (t : TypeId) (x y : Operand) (yt : TypeId) (Fs : List F) (fs gs : List D) (b : Bool) (hT : (t, .st Fs) ∈ T) (hx : ν x = .d (.agg fs)) (hy : ν y = .d (.agg gs)) (he : EqFs Fs fs gs b) :
      PEff P T (.binOp .neq t x y yt) ν (.d (.sc (.bool (!b))))
  | un {ν} (op : UnOp) (t : TypeId) (x : Operand) (u r : Value) (hx : ν x = .d (.sc u)) (h : UnOK op u r) : PEff P T (.unOp op t x) ν (.d (.sc r))
  | field {ν} (t : TypeId) (x : Operand) (f : Nat) (Fs : List F) (fs : List D) (y : D) (hT : (t, .st Fs) ∈ T) (hl : Fs.length = fs.length) (hx : ν x = .d (.agg fs)) (hf : fs[f]? = some y) :
      PEff P T (.field t x f) ν (.d y)
  | fieldE {ν} (t : TypeId) (x : Operand) (f : Nat) (Fs : List F) (fs : List D) (y : D) (hT : (t, .st Fs) ∈ T) (hl : Fs.length = fs.length) (hx : ν x = .el (.agg fs)) (hf : fs[f]? = some y) :
      PEff P T (.fieldAddr t x f) ν (.el y)
  | indexD {ν} (t : TypeId) (x ix : Operand) (e : TypeId) (ety : Ty) (xs : List D) (kd : IntKind) (j : Int) (y : D) (hT : (t, .sl e) ∈ T) (hE : (e, ety) ∈ T) (hx : ν x = .d (.sl xs))
      (hi : ν ix = .d (.sc (.int kd j))) (h0 : 0 ≤ j) (hy : xs[j.toNat]? = some y) (hw : y.width = ety.width) : PEff P T (.indexAddr t x ix) ν (.el y)
  | indexS {ν} (t : TypeId) (x ix : Operand) (s : ByteArray) (kd : IntKind) (j : Int) (b : UInt8) (hT : (t, .str) ∈ T) (hx : ν x = .d (.sc (.string s)))
      (hi : ν ix = .d (.sc (.int kd j))) (h0 : 0 ≤ j) (hb : s[j.toNat]? = some b) : PEff P T (.index t x ix) ν (.d (.sc (.int .u8 b.toNat)))
  | sliceD {ν} (t : TypeId) (x : Operand) (lo hi : Option Operand) (e : TypeId) (ety : Ty) (xs : List D) (l h : Nat) (hT : (t, .sl e) ∈ T) (hE : (e, ety) ∈ T) (hx : ν x = .d (.sl xs))
      (hlo : boundOf ν lo 0 l) (hhi : boundOf ν hi xs.length h) (hlh : l ≤ h) (hh : h ≤ xs.length) (hw : ∀ y ∈ xs, y.width = ety.width) :
      PEff P T (.slice t x lo hi none) ν (.d (.sl ((xs.take h).drop l)))
  | extract {ν} (x : Operand) (i : Nat) (xs : List T1) (r : T1) (hx : ν x = .tup xs) (hi : xs[i]? = some r) : PEff P T (.extract x i) ν r.toS
  | lenD {ν} (t : TypeId) (x : Operand) (e : TypeId) (xs : List D) (hT : (t, .sl e) ∈ T) (hx : ν x = .d (.sl xs)) : PEff P T (.call { callee := .builtin .len, args := #[x], argTypes := #[t] }) ν (.d (.sc (.int .i64 xs.length)))
  | lenN {ν} (t : TypeId) (x : Operand) (e : TypeId) (hT : (t, .sl e) ∈ T) (hx : ν x = .nil) : PEff P T (.call { callee := .builtin .len, args := #[x], argTypes := #[t] }) ν (.d (.sc (.int .i64 0)))
  | lenS {ν} (t : TypeId) (x : Operand) (s : ByteArray) (hT : (t, .str) ∈ T) (hx : ν x = .d (.sc (.string s))) : PEff P T (.call { callee := .builtin .len, args := #[x], argTypes := #[t] }) ν (.d (.sc (.int .i64 s.size)))
  | min {ν} (x y : Operand) (t : Array TypeId) (a b : Int) (hx : ν x = .d (.sc (.int .i64 a))) (hy : ν y = .d (.sc (.int .i64 b))) :
      PEff P T (.call { callee := .builtin .min, args := #[x, y], argTypes := t }) ν (.d (.sc (.int .i64 (if b < a then b else a))))
  | max {ν} (x y : Operand) (t : Array TypeId) (a b : Int) (hx : ν x = .d (.sc (.int .i64 a))) (hy : ν y = .d (.sc (.int .i64 b))) :
      PEff P T (.call { callee := .builtin .max, args := #[x, y], argTypes := t }) ν (.d (.sc (.int .i64 (if b > a then b else a))))
  | mkfn {ν} (f : FuncId) : PEff P T (.makeFunc (.func f) #[] #[]) ν (.fn f)
  | conv {ν} (src dst : TypeId) (x : Operand) (k k' : IntKind) (m : Int) (sty : Ty) (hs : (src, sty) ∈ T) (hd : P.underlying dst = some (.int k')) (hx : ν x = .d (.sc (.int k m))) :
      PEff P T (.convert src dst x) ν (.d (.sc (.int k' (k'.wrap m))))

theorem addr_add_add (a : Addr) (i j : Nat) : (a.add i).add j = a.add (i + j) := by
  unfold Addr.add
  by_cases hi : i = 0 <;> by_cases hj : j = 0 <;> simp [hi, hj, Nat.add_assoc]
theorem addr_add_spot (a : Addr) (i : Nat) (h : a.spot = none) : (a.add i).spot = none := by
  unfold Addr.add
  split <;> simp_all

theorem eqFields_run {P : Program} (d : Nat) : ∀ {Fs : List F} {fs gs : List D} {b : Bool}, EqFs Fs fs gs b → ∀ (M : Mem) (fds : List Field) (o : Nat) (xs ys : Array Value) (w : World),
    fds.length = Fs.length → (∀ (j : Nat) (f : F), Fs[j]? = some f → ∃ fd, fds[j]? = some fd ∧ FieldOK P f fd (o + j)) →
    (∀ (j : Nat) (f : D), fs[j]? = some f → ∃ v, xs[o + j]? = some v ∧ Rep M f v) → (∀ (j : Nat) (f : D), gs[j]? = some f → ∃ v, ys[o + j]? = some v ∧ Rep M f v) →
    (Op.eqFields (d + 1) xs ys fds).run P w = .ok b w
  | _, _, _, _, .nil, M, fds, o, xs, ys, w, hl, _, _, _ => by
    have : fds = [] := List.eq_nil_of_length_eq_zero hl
    subst this; rfl
  | _, _, _, _, .int (Fs := Fs) a b h, M, fds, o, xs, ys, w, hl, hfd, hx, hy => by
    match fds, hl with
    | fd :: fds, hl =>
      obtain ⟨fd', h1, hoff, hnm, ⟨i, hi, hs⟩, hu⟩ := hfd 0 _ rfl
      simp at h1; subst h1
      obtain ⟨v1, hv1, r1⟩ := hx 0 _ rfl
      obtain ⟨v2, hv2, r2⟩ := hy 0 _ rfl
      cases r1; cases r2
      simp only [Nat.add_zero] at hv1 hv2 hoff
      have ih := eqFields_run d h M fds (o + 1) xs ys w (by simpa using hl) (fun j f hj => by have := hfd (j + 1) f (by simpa using hj); simpa [Nat.add_assoc, Nat.add_comm 1 j] using this)
        (fun j f hj => by have := hx (j + 1) f (by simpa using hj); simpa [Nat.add_assoc, Nat.add_comm 1 j] using this) (fun j f hj => by have := hy (j + 1) f (by simpa using hj); simpa [Nat.add_assoc, Nat.add_comm 1 j] using this)
      simp only [Op.eqFields, hnm, ne_eq, not_false_eq_true, if_true, part, isAgg, run_underlying hu, Sem.run_bind, Result.andThen_ok, Sem.run_pure, Bool.false_eq_true, if_false, hoff, hv1, hv2, run_equalIn_int w d fd.type .i64 .i64 a b hu, Sem.run_ite, ih]
      cases (a == b) <;> simp
  | _, _, _, _, .bool (Fs := Fs) a b h, M, fds, o, xs, ys, w, hl, hfd, hx, hy => by
    match fds, hl with
    | fd :: fds, hl =>
      obtain ⟨fd', h1, hoff, hnm, ⟨i, hi, hs⟩, hu⟩ := hfd 0 _ rfl
      simp at h1; subst h1
      obtain ⟨v1, hv1, r1⟩ := hx 0 _ rfl
      obtain ⟨v2, hv2, r2⟩ := hy 0 _ rfl
      cases r1; cases r2
      simp only [Nat.add_zero] at hv1 hv2 hoff
      have ih := eqFields_run d h M fds (o + 1) xs ys w (by simpa using hl) (fun j f hj => by have := hfd (j + 1) f (by simpa using hj); simpa [Nat.add_assoc, Nat.add_comm 1 j] using this)
        (fun j f hj => by have := hx (j + 1) f (by simpa using hj); simpa [Nat.add_assoc, Nat.add_comm 1 j] using this) (fun j f hj => by have := hy (j + 1) f (by simpa using hj); simpa [Nat.add_assoc, Nat.add_comm 1 j] using this)
      simp only [Op.eqFields, hnm, ne_eq, not_false_eq_true, if_true, part, isAgg, run_underlying hu, Sem.run_bind, Result.andThen_ok, Sem.run_pure, Bool.false_eq_true, if_false, hoff, hv1, hv2, run_equalIn_bool' w d fd.type a b hu, Sem.run_ite, ih]
      cases (a == b) <;> simp
  | _, _, _, _, .str (Fs := Fs) a b h, M, fds, o, xs, ys, w, hl, hfd, hx, hy => by
    match fds, hl with
    | fd :: fds, hl =>
      obtain ⟨fd', h1, hoff, hnm, ⟨i, hi, hs⟩, hu⟩ := hfd 0 _ rfl
      simp at h1; subst h1
      obtain ⟨v1, hv1, r1⟩ := hx 0 _ rfl
      obtain ⟨v2, hv2, r2⟩ := hy 0 _ rfl
      cases r1; cases r2
      simp only [Nat.add_zero] at hv1 hv2 hoff
      have ih := eqFields_run d h M fds (o + 1) xs ys w (by simpa using hl) (fun j f hj => by have := hfd (j + 1) f (by simpa using hj); simpa [Nat.add_assoc, Nat.add_comm 1 j] using this)
        (fun j f hj => by have := hx (j + 1) f (by simpa using hj); simpa [Nat.add_assoc, Nat.add_comm 1 j] using this) (fun j f hj => by have := hy (j + 1) f (by simpa using hj); simpa [Nat.add_assoc, Nat.add_comm 1 j] using this)
      simp only [Op.eqFields, hnm, ne_eq, not_false_eq_true, if_true, part, isAgg, run_underlying hu, Sem.run_bind, Result.andThen_ok, Sem.run_pure, Bool.false_eq_true, if_false, hoff, hv1, hv2, run_equalIn_string w d fd.type a b hu, Sem.run_ite, ih]
      cases (a.toList == b.toList) <;> simp

theorem eqA_run {P : Program} {t : TypeId} {Fs : List F} (hT : TyOK P t (.st Fs)) {fs gs : List D} {b : Bool} (he : EqFs Fs fs gs b) {M : Mem} {v1 v2 : Value} (h1 : Rep M (.agg fs) v1) (h2 : Rep M (.agg gs) v2)
    (x y : Operand) (w : World) : (do eqGuard .eql t x y v1 v2; binOp .eql t v1 v2 : Sem Value).run P w = .ok (.bool b) w ∧ (do eqGuard .neq t x y v1 v2; binOp .neq t v1 v2 : Sem Value).run P w = .ok (.bool (!b)) w := by
  obtain ⟨fds, hu, hsz, hf, hst, hgd⟩ := hT.und
  cases h1 with
  | agg _ cs hl hc h =>
  cases h2 with
  | agg _ ds hl2 hc2 h2 =>
  have hfo : P.fieldsOf t = fds := by simp [Program.fieldsOf, hu]
  have hr := eqFields_run (P := P) 9998 he M fds.toList 0 cs ds w (by simpa using hsz) (fun j f hj => by obtain ⟨fd, a, b⟩ := hf j f hj; exact ⟨fd, by simpa using a, by simpa using b⟩)
    (fun j f hj => ⟨cs.getD j undef, by have := (List.getElem?_eq_some_iff.1 hj).1; have : cs[j]? = some (cs[j]'(by omega)) := Array.getElem?_eq_getElem (by omega); simp [this], h j f hj⟩)
    (fun j f hj => ⟨ds.getD j undef, by have := (List.getElem?_eq_some_iff.1 hj).1; have : ds[j]? = some (ds[j]'(by omega)) := Array.getElem?_eq_getElem (by omega); simp [this], h2 j f hj⟩)
  have he2 := run_equalIn_struct (P := P) w 9999 t cs ds (by rw [hfo]; exact hu) hst
  rw [hfo, hr] at he2
  constructor
  · rw [Sem.run_bind, run_eqGuard_agg w .eql t x y cs ds hgd]
    simp only [Result.andThen_ok, run_eql_struct, he2]
  · rw [Sem.run_bind, run_eqGuard_agg w .neq t x y cs ds hgd]
    simp only [Result.andThen_ok, run_neq_struct, he2]

end Go.DL
