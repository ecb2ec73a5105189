/- Part of an evaluator of Go code on plain data, proved sound for the model: lemmas alone, for every program; each states its own conditions. -/
import Derived.Test.YtjhjedfnjimflaaEngS
namespace Go.DL
open Go.RowKit

def isCellZ : F → Value → Bool
  | .int, .int .i64 n => n == 0
  | .bool, .bool b => !b
  | .str, .string s => s.data.toList.isEmpty
  | .sl, .slice none 0 0 => true
  | _, _ => false
def allZ : List F → List Value → Bool
  | [], [] => true
  | f :: fs, v :: vs => isCellZ f v && allZ fs vs
  | _, _ => false
def isZ : Ty → Value → Bool
  | .int, .int .i64 n => n == 0
  | .u8, .int .u8 n => n == 0
  | .bool, .bool b => !b
  | .str, .string s => s.data.toList.isEmpty
  | .sl _, .slice none 0 0 => true
  | .st fs, .agg cs => allZ fs cs.toList
  | _, _ => false
theorem str_empty {s : ByteArray} (h : s.data.toList.isEmpty = true) : s = ⟨#[]⟩ := by
  cases s with
  | mk d =>
    simp only [List.isEmpty_iff] at h
    congr
    exact Array.toList_inj.1 h
theorem isCellZ_eq {f : F} {v : Value} (h : isCellZ f v = true) : v = f.zeroV := by
  unfold isCellZ at h
  split at h <;> simp_all [F.zeroV]
  exact str_empty (by simpa using h)
theorem allZ_eq : ∀ {fs : List F} {vs : List Value}, allZ fs vs = true → vs = fs.map F.zeroV
  | [], [], _ => rfl
  | [], _ :: _, h => by simp [allZ] at h
  | _ :: _, [], h => by simp [allZ] at h
  | f :: fs, v :: vs, h => by
    simp only [allZ, Bool.and_eq_true] at h
    rw [isCellZ_eq h.1, allZ_eq h.2]
    rfl
theorem isZ_eq {t : Ty} {v : Value} (h : isZ t v = true) : v = t.zeroV := by
  unfold isZ at h
  split at h <;> simp_all [Ty.zeroV]
  · exact str_empty (by simpa using h)
  · rw [← allZ_eq h]

def fieldB (P : Program) (f : F) (fd : Field) (j : Nat) : Bool :=
  Nat.beq fd.offset j && !(fd.name == "_") && (match P.info? fd.type with | some i => Nat.beq i.size 1 | none => false) &&
  (match f, P.underlying fd.type with
   | .int, some (.int .i64) => true
   | .bool, some .bool => true
   | .str, some .string => true
   | .sl, some (.slice _) => true
   | _, _ => false)
def fieldsOKB (P : Program) : Nat → List F → List Field → Bool
  | _, [], [] => true
  | j, f :: fs, fd :: fds => fieldB P f fd j && fieldsOKB P (j + 1) fs fds
  | _, _, _ => false
def tyOKB (P : Program) (p : TypeId × Ty) : Bool :=
  (match p.2, P.underlying p.1 with
    | .int, some (.int .i64) => true
    | .u8, some (.int .u8) => true
    | .bool, some .bool => true
    | .str, some .string => true
    | .sl e, some (.slice e') => Nat.beq e' e
    | .st fs, some (.struct fds) => fieldsOKB P 0 fs fds.toList && !P.stoodInHeld p.1 && !P.eqGuardType P.depth p.1
    | _, _ => false) &&
  (match P.info? p.1 with
    | some i => Nat.beq i.size p.2.width && (match i.zero with | some z => isZ p.2 z | none => false) && Nat.ble i.bytes 4096
    | none => false)
def tokB (P : Program) : Tys → Bool
  | [] => true
  | p :: r => tyOKB P p && tokB P r

theorem fieldB_ok {P : Program} {f : F} {fd : Field} {j : Nat} (h : fieldB P f fd j = true) : FieldOK P f fd j := by
  simp only [fieldB, Bool.and_eq_true] at h
  obtain ⟨⟨⟨h1, h2⟩, h3⟩, h4⟩ := h
  refine ⟨beqN h1, by simpa using h2, ?_, ?_⟩
  · split at h3
    · rename_i i hi; exact ⟨i, hi, beqN h3⟩
    · cases h3
  · split at h4
    · assumption
    · assumption
    · assumption
    · exact ⟨_, by assumption⟩
    · cases h4
theorem fieldsOKB_ok {P : Program} : ∀ {j : Nat} {fs : List F} {fds : List Field}, fieldsOKB P j fs fds = true → fds.length = fs.length ∧ ∀ (i : Nat) (f : F), fs[i]? = some f → ∃ fd, fds[i]? = some fd ∧ FieldOK P f fd (j + i)
  | _, [], [], _ => ⟨rfl, fun i f hf => by simp at hf⟩
  | _, [], _ :: _, h => by simp [fieldsOKB] at h
  | _, _ :: _, [], h => by simp [fieldsOKB] at h
  | j, f :: fs, fd :: fds, h => by
    simp only [fieldsOKB, Bool.and_eq_true] at h
    obtain ⟨h1, h2⟩ := fieldsOKB_ok h.2
    refine ⟨by simp [h1], fun i g hg => ?_⟩
    cases i with
    | zero => simp at hg; subst hg; exact ⟨fd, rfl, fieldB_ok h.1⟩
    | succ i =>
      obtain ⟨fd', h3, h4⟩ := h2 i g (by simpa using hg)
      exact ⟨fd', by simpa using h3, by rwa [show j + (i + 1) = j + 1 + i from by omega]⟩
theorem tyOKB_ok {P : Program} {p : TypeId × Ty} (h : tyOKB P p = true) : TyOK P p.1 p.2 := by
  obtain ⟨t, ty⟩ := p
  simp only [tyOKB, Bool.and_eq_true] at h
  obtain ⟨h1, h2⟩ := h
  refine ⟨?_, ?_⟩
  · split at h1
    case h_5 => rename_i e e' hu; rw [← beqN h1]; exact hu
    case h_6 =>
      rename_i fs fds hu
      simp only [Bool.and_eq_true, Bool.not_eq_true'] at h1
      obtain ⟨h3, h4⟩ := fieldsOKB_ok h1.1.1
      exact ⟨fds, hu, by simpa using h3, fun j f hf => by simpa using h4 j f hf, h1.1.2, h1.2⟩
    case h_7 => cases h1
    all_goals assumption
  · split at h2
    · rename_i i hi
      simp only [Bool.and_eq_true] at h2
      refine ⟨i, hi, beqN h2.1.1, ?_, Nat.le_of_ble_eq_true h2.2⟩
      have h3 := h2.1.2
      split at h3
      · rename_i z hz; rw [hz, isZ_eq h3]
      · cases h3
    · cases h2
theorem TOK_of {P : Program} : ∀ {T : Tys}, tokB P T = true → TOK P T
  | [], _, p, hp => by simp at hp
  | q :: r, h, p, hp => by
    simp only [tokB, Bool.and_eq_true] at h
    rcases List.mem_cons.1 hp with rfl | hp
    · exact tyOKB_ok h.1
    · exact TOK_of h.2 p hp
end Go.DL
