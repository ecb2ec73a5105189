/- Part of an evaluator of Go code on plain data, proved sound for the model: lemmas alone, for every program; each states its own conditions. -/
import Derived.Test.YtjhjedfnjimflaaEngB
import Derived.Laws.StructEq
namespace Go.DL
open Go.RowKit

inductive F where
  | int | bool | str | sl
def F.zeroV : F → Value
  | .int => .int .i64 0 | .bool => .bool false | .str => .string ⟨#[]⟩ | .sl => .slice none 0 0
def F.zeroD : F → D
  | .int => .sc (.int .i64 0) | .bool => .sc (.bool false) | .str => .sc (.string ⟨#[]⟩) | .sl => .sl []

inductive Ty where
  | int | u8 | bool | str
  | sl (e : TypeId)
  | st (fs : List F)
def Ty.width : Ty → Nat
  | .st fs => fs.length
  | _ => 1
def Ty.zeroV : Ty → Value
  | .int => .int .i64 0 | .u8 => .int .u8 0 | .bool => .bool false | .str => .string ⟨#[]⟩ | .sl _ => .slice none 0 0
  | .st fs => .agg (fs.map F.zeroV).toArray
def Ty.zeroD : Ty → D
  | .int => .sc (.int .i64 0) | .u8 => .sc (.int .u8 0) | .bool => .sc (.bool false) | .str => .sc (.string ⟨#[]⟩) | .sl _ => .sl []
  | .st fs => .agg (fs.map F.zeroD)

def FieldOK (P : Program) (f : F) (fd : Field) (j : Nat) : Prop :=
  fd.offset = j ∧ fd.name ≠ "_" ∧ (∃ i, P.info? fd.type = some i ∧ i.size = 1) ∧
  (match f with
   | .int => P.underlying fd.type = some (.int .i64)
   | .bool => P.underlying fd.type = some .bool
   | .str => P.underlying fd.type = some .string
   | .sl => ∃ e, P.underlying fd.type = some (.slice e))

def StructOK (P : Program) (t : TypeId) (fs : List F) : Prop :=
  ∃ fds : Array Field, P.underlying t = some (.struct fds) ∧ fds.size = fs.length ∧ (∀ (j : Nat) (f : F), fs[j]? = some f → ∃ fd, fds[j]? = some fd ∧ FieldOK P f fd j) ∧
    P.stoodInHeld t = false ∧ P.eqGuardType P.depth t = false

structure TyOK (P : Program) (t : TypeId) (ty : Ty) : Prop where
  und : match ty with
    | .int => P.underlying t = some (.int .i64)
    | .u8 => P.underlying t = some (.int .u8)
    | .bool => P.underlying t = some .bool
    | .str => P.underlying t = some .string
    | .sl e => P.underlying t = some (.slice e)
    | .st fs => StructOK P t fs
  info : ∃ i, P.info? t = some i ∧ i.size = ty.width ∧ i.zero = some ty.zeroV ∧ i.bytes ≤ 4096

abbrev Tys := List (TypeId × Ty)
def TOK (P : Program) (T : Tys) : Prop := ∀ p, p ∈ T → TyOK P p.1 p.2

theorem und_some {P : Program} {t : TypeId} {ty : Ty} (h : TyOK P t ty) : ∃ d, P.underlying t = some d ∧ (match d with | .struct _ | .array _ _ => True | _ => False) = (match ty with | .st _ => True | _ => False) := by
  have := h.und
  cases ty <;> simp only at this
  case st fs => obtain ⟨fds, hf, _⟩ := this; exact ⟨_, hf, rfl⟩
  all_goals exact ⟨_, this, rfl⟩

def Ty.isSt : Ty → Bool
  | .st _ => true
  | _ => false
theorem run_isAgg {P : Program} {t : TypeId} {ty : Ty} (h : TyOK P t ty) (w : World) : (isAgg t).run P w = .ok ty.isSt w := by
  have := h.und
  cases ty <;> simp only at this
  case st fs => obtain ⟨fds, hf, _⟩ := this; simp [isAgg, run_underlying hf, Ty.isSt]
  all_goals simp [isAgg, run_underlying this, Ty.isSt]

theorem run_sizeOf {P : Program} {t : TypeId} {ty : Ty} (h : TyOK P t ty) (w : World) : (sizeOf t).run P w = .ok ty.width w := by
  obtain ⟨i, hi, hs, _⟩ := h.info
  simp [sizeOf, typeInfo, hi, hs]

theorem run_zero {P : Program} {t : TypeId} {ty : Ty} (h : TyOK P t ty) (w : World) : (zeroValue t).run P w = .ok ty.zeroV w := by
  obtain ⟨i, hi, _, hz, _⟩ := h.info
  simp [zeroValue, typeInfo, hi, hz]

theorem F.zero_rep (M : Mem) (f : F) : Rep M f.zeroD f.zeroV ∧ f.zeroD.isCell = true := by
  cases f <;> exact ⟨by first | exact .sc _ rfl | exact .nil _ _, rfl⟩

theorem Ty.zero_rep (M : Mem) (ty : Ty) : Rep M ty.zeroD ty.zeroV := by
  cases ty with
  | st fs =>
    refine .agg _ _ (by simp) (fun f hf => ?_) (fun j f hj => ?_)
    · obtain ⟨g, _, rfl⟩ := List.mem_map.1 hf
      exact (F.zero_rep M g).2
    · rw [List.getElem?_map] at hj
      cases hg : fs[j]? with
      | none => simp [hg] at hj
      | some g =>
        simp [hg] at hj
        subst hj
        simp [hg]
        exact (F.zero_rep M g).1
  | sl e => exact .nil _ _
  | int => exact .sc _ rfl
  | u8 => exact .sc _ rfl
  | bool => exact .sc _ rfl
  | str => exact .sc _ rfl

theorem Ty.zero_width (ty : Ty) : ty.zeroD.width = ty.width := by
  cases ty <;> simp [Ty.zeroD, Ty.width, D.width]

/-- The cells of a value that reads as x. -/
theorem Rep.cells_one {M : Mem} {x : D} {v : Value} (h : Rep M x v) : v.cells.size = x.width ∧ (∀ u ∈ v.cells.toList, u.oneCell' = true) ∧ ElemAt M x v.cells.toList 0 := by
  cases h with
  | sc u hu =>
    have e : v.cells = #[v] := by cases v <;> first | rfl | cases hu
    rw [e]
    exact ⟨rfl, by simpa using hu, fun _ => ⟨v, rfl, .sc v hu⟩, fun fs hfs => by cases hfs⟩
  | agg fs cs hl hc h =>
    refine ⟨hl, fun u hu => ?_, fun hx => (by cases hx), fun fs' hfs i f hi => ?_⟩
    · obtain ⟨j, hj⟩ := List.getElem?_of_mem hu
      have hjl : j < cs.size := by have := (List.getElem?_eq_some_iff.1 hj).1; simpa [Value.cells] using this
      have hf : fs[j]? = some (fs[j]'(by omega)) := List.getElem?_eq_getElem (by omega)
      have h1 := (h j _ hf).oneCell (hc _ (List.getElem_mem _))
      have e : cs.getD j undef = u := by
        have : cs[j]? = some u := by simpa [Value.cells] using hj
        simp [this]
      rwa [e] at h1
    · cases hfs
      have hil := (List.getElem?_eq_some_iff.1 hi).1
      refine ⟨hc f (List.mem_of_getElem? hi), cs.getD i undef, ?_, h i f hi⟩
      have : cs[i]? = some (cs[i]'(by omega)) := Array.getElem?_eq_getElem (by omega)
      simp [Value.cells, this]
  | nil a cap => exact ⟨rfl, by simp [Value.cells, Value.oneCell'], fun _ => ⟨_, rfl, .nil a cap⟩, fun fs hfs => by cases hfs⟩
  | sl xs ad cap sz c hcap hsp hw hm hs hc ha =>
    exact ⟨rfl, by simp [Value.cells, Value.oneCell'], fun _ => ⟨_, rfl, .sl xs ad cap sz c hcap hsp hw hm hs hc ha⟩, fun fs hfs => by cases hfs⟩

theorem cellsOK_one {M : Mem} {x : D} {v : Value} (h : Rep M x v) : CellsOK M x.width [x] v.cells.toList := by
  obtain ⟨h1, _, h3⟩ := h.cells_one
  refine ⟨by simp [h1], fun j y hy => ?_⟩
  cases j with
  | zero => simp at hy; subst hy; exact ⟨rfl, by simpa using h3⟩
  | succ j => simp at hy

/-- What an operand reads as, when it is handed on as data: a view of an own array is shared. -/
inductive ToD (τ : Ab) : S → D → List Nat → Prop
  | d (x : D) : ToD τ (.d x) x []
  | nil : ToD τ .nil (.sl []) []
  | av (k m : Nat) (A : Arr) (h : τ.c k = some A) : ToD τ (.av k m) (.sl (A.xs.take m)) [k]

def Ab.shares (τ : Ab) (ks : List Nat) : Ab := ks.foldl Ab.share τ

section
variable {X : Env} {w0 : World} {M0 : Mem} {n : Nat} {τ : Ab} {ac : Act} {w : World} {M : Mem} {γ : Nat → Value}

theorem shares_c (τ : Ab) (ks : List Nat) : (τ.shares ks).c = τ.c ∧ (τ.shares ks).us = τ.us ∧ (τ.shares ks).s = τ.s := by
  unfold Ab.shares
  induction ks generalizing τ with
  | nil => exact ⟨rfl, rfl, rfl⟩
  | cons k ks ih => exact ih (τ.share k)

theorem Goes.shares (τ : Ab) (γ : Nat → Value) (ks : List Nat) : Goes τ (τ.shares ks) γ γ := by
  obtain ⟨h1, h2, _⟩ := shares_c τ ks
  intro k hk
  exact ⟨by rw [h2]; exact hk, fun A hA => ⟨A, by rw [h1] at hA; exact hA, rfl, Nat.le_refl _, rfl⟩⟩

theorem SimW.toD (h : SimW X w0 M0 n τ ac w M γ) {s : S} {x : D} {ks : List Nat} (hd : ToD τ s x ks) {v : Value} (hv : RepS M τ γ s v) :
    ∃ M', SimW X w0 M0 n (τ.shares ks) ac w M' γ ∧ Mem.le M M' ∧ Rep M' x v := by
  cases hd with
  | d => exact ⟨M, h, Mem.le_refl M, hv⟩
  | nil => exact ⟨M, h, Mem.le_refl M, by rw [show v = .slice none 0 0 from hv]; exact .nil _ _⟩
  | av k m A hA =>
    obtain ⟨hm, e⟩ := hv.2 A hA
    obtain ⟨M', h1, h2, h3⟩ := h.share hA hm
    exact ⟨M', h1, h2, by rw [e]; exact h3⟩

/-- Several operands at once. -/
inductive ToDs (τ : Ab) : List S → List D → List Nat → Prop
  | nil : ToDs τ [] [] []
  | cons {s : S} {x : D} {k : List Nat} {ss : List S} {xs : List D} {ks : List Nat} (h : ToD τ s x k) (t : ToDs τ ss xs ks) : ToDs τ (s :: ss) (x :: xs) (k ++ ks)

theorem ToD.of_c {τ τ' : Ab} (hc : τ'.c = τ.c) {s : S} {x : D} {ks : List Nat} (h : ToD τ s x ks) : ToD τ' s x ks := by
  cases h with
  | d => exact .d x
  | nil => exact .nil
  | av k m A hA => exact .av k m A (by rw [hc]; exact hA)
theorem ToDs.of_c {τ τ' : Ab} (hc : τ'.c = τ.c) {ss : List S} {xs : List D} {ks : List Nat} (h : ToDs τ ss xs ks) : ToDs τ' ss xs ks := by
  induction h with
  | nil => exact .nil
  | cons h t ih => exact .cons (h.of_c hc) ih

theorem shares_append (τ : Ab) (a b : List Nat) : τ.shares (a ++ b) = (τ.shares a).shares b := by simp [Ab.shares]

theorem SimW.toDs {τ0 : Ab} {ss : List S} {xs : List D} {ks : List Nat} (hd : ToDs τ0 ss xs ks) : ∀ {τ : Ab} {M : Mem} {vs : Nat → Value}, τ.c = τ0.c → SimW X w0 M0 n τ ac w M γ →
    (∀ (j : Nat) (s : S), ss[j]? = some s → RepS M τ γ s (vs j)) →
    ∃ M', SimW X w0 M0 n (τ.shares ks) ac w M' γ ∧ Mem.le M M' ∧ xs.length = ss.length ∧ ∀ (j : Nat) (x : D), xs[j]? = some x → Rep M' x (vs j) := by
  induction hd with
  | nil => exact fun hc h hv => ⟨_, h, Mem.le_refl _, rfl, fun j x hx => by simp at hx⟩
  | @cons s x k ss xs ks h0 t ih =>
    intro τ M vs hc h hv
    obtain ⟨M1, h1, l1, r1⟩ := h.toD (h0.of_c hc) (hv 0 s rfl)
    obtain ⟨e1, e2, e3⟩ := shares_c τ k
    obtain ⟨M2, h2, l2, hl, r2⟩ := ih (vs := fun j => vs (j + 1)) (by rw [e1, hc]) h1 (fun j s' hs => (hv (j + 1) s' (by simpa using hs)).goes l1 (Goes.shares τ γ k))
    refine ⟨M2, by rw [shares_append]; exact h2, Mem.le_trans l1 l2, by simp [hl], fun j y hy => ?_⟩
    cases j with
    | zero => simp at hy; subst hy; exact r1.mono l2
    | succ j => exact r2 j y (by simpa using hy)
end
end Go.DL
