/- Part of an evaluator of Go code on plain data, proved sound for the model: lemmas alone, for every program; each states its own conditions. -/
import Derived.Test.YtjhjedfnjimflaaEngO
namespace Go.DL
open Go.RowKit
section
variable {P : Program} {T : Tys} {R : List Nat}

/-! ### A region -/
def guardK (all : List Oper) (j : Nat) (K : Nat → Prop) : Prop :=
  getK all j fun o => match o.dst with
    | some t => K t
    | none => False

def dOps (P : Program) (T : Tys) (R : List Nat) (all : List Oper) : List Oper → St → (St → Prop) → Prop
  | [], σ, K => K σ
  | o :: rest, σ, K => match o.guard with
    | none => dOp P T R o σ fun σ' => dOps P T R all rest σ' K
    | some (j, want) => guardK all j fun t => match lkS t σ.s with
      | .un => putS σ o.dst .un fun σ' => dOps P T R all rest σ' K
      | .d (.sc (.bool b)) => brM b
          (putS σ (some t) (.d (.sc (.bool true))) fun σ1 => match want with
            | true => dOp P T R o σ1 fun σ' => dOps P T R all rest σ' K
            | false => putS σ1 o.dst .un fun σ' => dOps P T R all rest σ' K)
          (putS σ (some t) (.d (.sc (.bool false))) fun σ1 => match want with
            | true => putS σ1 o.dst .un fun σ' => dOps P T R all rest σ' K
            | false => dOp P T R o σ1 fun σ' => dOps P T R all rest σ' K)
      | _ => False

theorem brM_tt {A B : Prop} (h : brM true A B) : A := h
theorem brM_ff {A B : Prop} (h : brM false A B) : B := h

theorem putS_same {σ : St} {t : Nat} {s : S} {K : St → Prop} (hs : lkS t σ.s = s) (h : putS σ (some t) s K) : ∃ σ1, σ1.ab = σ.ab ∧ K σ1 := by
  refine ⟨⟨(t, s) :: σ.s, σ.c, σ.sh⟩, ?_, h⟩
  refine Ab.ext' (funext fun j => ?_) rfl rfl rfl
  simp only [St.ab, lkS_cons]
  split
  · rename_i e; rw [e]; exact hs.symm
  · rfl

theorem putS_ab {σ : St} {dst : Option Nat} {s : S} {K : St → Prop} (h : putS σ dst s K) : ∃ σ1, σ1.ab = σ.ab.put dst s ∧ K σ1 := by
  cases dst with
  | none => exact ⟨σ, rfl, h⟩
  | some d => exact ⟨⟨(d, s) :: σ.s, σ.c, σ.sh⟩, ab_cons σ d s [], h⟩

def AbQ (K : St → Prop) (τ : Ab) : Prop := ∃ σ, σ.ab = τ ∧ K σ

theorem dOps_lex (hT : TOK P T) {all : List Oper} : ∀ {l : List Oper} {σ : St} {K : St → Prop}, dOps P T R all l σ K → dLex P T R all.toArray (AbQ K) l σ.ab
  | [], σ, K, h => ⟨σ, rfl, h⟩
  | o :: rest, σ, K, h => by
    have fin : ∀ (σ0 : St), σ0.ab = σ.ab → Wanted all.toArray σ.ab o → dOp P T R o σ0 (fun σ' => dOps P T R all rest σ' K) → dLex P T R all.toArray (AbQ K) (o :: rest) σ.ab := fun σ0 h0 hw h => by
      obtain ⟨e, σ', he, hab, hK⟩ := dOp_out hT h
      rw [h0] at he hab
      refine ⟨e, ?_, ?_⟩
      · rcases he with he | he
        · exact .tame e hw he
        · exact .wild e hw he
      · rw [← hab]; exact dOps_lex hT hK
    have skp : ∀ (σ0 : St), σ0.ab = σ.ab → GEff P T R all.toArray o σ.ab { s := .un } → putS σ0 o.dst .un (fun σ' => dOps P T R all rest σ' K) → dLex P T R all.toArray (AbQ K) (o :: rest) σ.ab := fun σ0 h0 hg h => by
      obtain ⟨σ', hab, hK⟩ := putS_ab h
      rw [h0] at hab
      refine ⟨_, hg, ?_⟩
      have e : σ.ab.eff o.dst { s := .un } = σ'.ab := by rw [hab]; rfl
      rw [e]
      exact dOps_lex hT hK
    unfold dOps at h
    split at h
    · rename_i hg
      exact fin σ rfl (.inl hg) h
    · rename_i j want hg
      unfold guardK at h
      obtain ⟨oj, hoj, h⟩ := getK_iff.1 h
      split at h
      case h_2 => exact h.elim
      rename_i t ht
      have hbind : (all.toArray[j]?).bind (·.dst) = some t := by simp [hoj, ht]
      split at h
      · rename_i hs
        exact skp σ rfl (.skip j t want hg hbind (.inl hs)) h
      · rename_i b hs
        cases b with
        | true =>
          obtain ⟨σ1, hab, h⟩ := putS_same hs (brM_tt h)
          cases want with
          | true => exact fin σ1 hab (.inr ⟨j, true, t, hg, hbind, hs⟩) h
          | false => exact skp σ1 hab (.skip j t false hg hbind (.inr hs)) h
        | false =>
          obtain ⟨σ1, hab, h⟩ := putS_same hs (brM_ff h)
          cases want with
          | true => exact skp σ1 hab (.skip j t true hg hbind (.inr hs)) h
          | false => exact fin σ1 hab (.inr ⟨j, false, t, hg, hbind, hs⟩) h
      · exact h.elim

/-! ### A region without draws, where calls may have results that are known by a property -/
def dOpsE (P : Program) (T : Tys) (R : List Nat) (all : List Oper) : List Oper → St → (St → Prop) → Prop
  | [], σ, K => K σ
  | o :: rest, σ, K => match o.guard with
    | none => dOpE P T R o σ fun σ' => dOpsE P T R all rest σ' K
    | some (j, want) => guardK all j fun t => match lkS t σ.s with
      | .un => putS σ o.dst .un fun σ' => dOpsE P T R all rest σ' K
      | .d (.sc (.bool b)) => brM b
          (putS σ (some t) (.d (.sc (.bool true))) fun σ1 => match want with
            | true => dOpE P T R o σ1 fun σ' => dOpsE P T R all rest σ' K
            | false => putS σ1 o.dst .un fun σ' => dOpsE P T R all rest σ' K)
          (putS σ (some t) (.d (.sc (.bool false))) fun σ1 => match want with
            | true => putS σ1 o.dst .un fun σ' => dOpsE P T R all rest σ' K
            | false => dOpE P T R o σ1 fun σ' => dOpsE P T R all rest σ' K)
      | _ => False

theorem dOpsE_lex (hT : TOK P T) {all : List Oper} : ∀ {l : List Oper} {σ : St} {K : St → Prop}, dOpsE P T R all l σ K → dLexE P T R all.toArray (AbQ K) l σ.ab
  | [], σ, K, h => ⟨σ, rfl, h⟩
  | o :: rest, σ, K, h => by
    have fin : ∀ (σ0 : St), σ0.ab = σ.ab → Wanted all.toArray σ.ab o → dOpE P T R o σ0 (fun σ' => dOpsE P T R all rest σ' K) → dLexE P T R all.toArray (AbQ K) (o :: rest) σ.ab := fun σ0 h0 hw h => by
      rcases dOpE_out hT h with h | ⟨E, hE, hK⟩
      · obtain ⟨e, σ', he, hab, hK⟩ := h
        rw [h0] at he hab
        refine .inl ⟨e, ?_, ?_⟩
        · rcases he with he | he
          · exact .tame e hw he
          · exact .wild e hw he
        · rw [← hab]; exact dOpsE_lex hT hK
      · rw [h0] at hE
        refine .inr ⟨E, hw, hE, fun e he => ?_⟩
        obtain ⟨σ', hab, hK'⟩ := hK e he
        rw [h0] at hab
        rw [← hab]; exact dOpsE_lex hT hK'
    have skp : ∀ (σ0 : St), σ0.ab = σ.ab → GEff P T R all.toArray o σ.ab { s := .un } → putS σ0 o.dst .un (fun σ' => dOpsE P T R all rest σ' K) → dLexE P T R all.toArray (AbQ K) (o :: rest) σ.ab := fun σ0 h0 hg h => by
      obtain ⟨σ', hab, hK⟩ := putS_ab h
      rw [h0] at hab
      refine .inl ⟨_, hg, ?_⟩
      have e : σ.ab.eff o.dst { s := .un } = σ'.ab := by rw [hab]; rfl
      rw [e]
      exact dOpsE_lex hT hK
    unfold dOpsE at h
    split at h
    · rename_i hg
      exact fin σ rfl (.inl hg) h
    · rename_i j want hg
      unfold guardK at h
      obtain ⟨oj, hoj, h⟩ := getK_iff.1 h
      split at h
      case h_2 => exact h.elim
      rename_i t ht
      have hbind : (all.toArray[j]?).bind (·.dst) = some t := by simp [hoj, ht]
      split at h
      · rename_i hs
        exact skp σ rfl (.skip j t want hg hbind (.inl hs)) h
      · rename_i b hs
        cases b with
        | true =>
          obtain ⟨σ1, hab, h⟩ := putS_same hs (brM_tt h)
          cases want with
          | true => exact fin σ1 hab (.inr ⟨j, true, t, hg, hbind, hs⟩) h
          | false => exact skp σ1 hab (.skip j t false hg hbind (.inr hs)) h
        | false =>
          obtain ⟨σ1, hab, h⟩ := putS_same hs (brM_ff h)
          cases want with
          | true => exact skp σ1 hab (.skip j t true hg hbind (.inr hs)) h
          | false => exact fin σ1 hab (.inr ⟨j, false, t, hg, hbind, hs⟩) h
      · exact h.elim

/-! ### A region whose operations on different arrays change places -/
def opKeys (σ : St) : List Operand → List Nat
  | [] => []
  | x :: r => (match valS σ x with
    | .av k _ => k :: opKeys σ r
    | .ae k _ => k :: opKeys σ r
    | .af k _ _ => k :: opKeys σ r
    | .tup xs => tupKeys xs ++ opKeys σ r
    | _ => opKeys σ r)
where tupKeys : List T1 → List Nat
  | [] => []
  | .av k _ :: r => k :: tupKeys r
  | .d _ :: r => tupKeys r
theorem tupKeys_spec : ∀ {xs : List T1} {k : Nat}, (∃ t ∈ xs, refT t k) → k ∈ opKeys.tupKeys xs
  | [], _, h => by simp at h
  | .av j m :: r, k, h => by
    obtain ⟨t, ht, hk⟩ := h
    rcases List.mem_cons.1 ht with rfl | ht
    · rw [show k = j from hk]; simp [opKeys.tupKeys]
    · exact List.mem_cons_of_mem _ (tupKeys_spec ⟨t, ht, hk⟩)
  | .d x :: r, k, h => by
    obtain ⟨t, ht, hk⟩ := h
    rcases List.mem_cons.1 ht with rfl | ht
    · exact hk.elim
    · exact tupKeys_spec (xs := r) ⟨t, ht, hk⟩
theorem opKeys_spec {σ : St} : ∀ {xs : List Operand} {k : Nat}, (∃ x ∈ xs, refS (σ.ab.val x) k) → k ∈ opKeys σ xs
  | [], _, h => by simp at h
  | y :: r, k, h => by
    have hr : (∃ x ∈ r, refS (σ.ab.val x) k) → k ∈ opKeys σ r := opKeys_spec
    obtain ⟨x, hx, hk⟩ := h
    unfold opKeys
    rcases List.mem_cons.1 hx with rfl | hx
    · rw [← valS_ab] at hk
      generalize valS σ x = s at hk ⊢
      cases s with
      | av k' m => rw [show k = k' from hk]; simp
      | ae k' m => rw [show k = k' from hk]; simp
      | af k' m f => rw [show k = k' from hk]; simp
      | tup xs => exact List.mem_append_left _ (tupKeys_spec hk)
      | _ => exact hk.elim
    · have := hr ⟨x, hx, hk⟩
      generalize valS σ y = s
      cases s <;> simp [this]

structure KeysK (R : List Nat) (all : List Oper) (Ks : List (List Nat)) (K : Prop) : Prop where
  out : clsK R all Ks = true ∧ K
theorem KeysK_intro {R : List Nat} {all : List Oper} {Ks : List (List Nat)} {K : Prop} (h : clsK R all Ks = true) (hK : K) : KeysK R all Ks K := ⟨⟨h, hK⟩⟩

def dOpsK (P : Program) (T : Tys) (R : List Nat) (all : List Oper) : List Oper → List (List Nat) → St → (St → Prop) → Prop
  | [], acc, σ, K => KeysK R all acc.reverse (K σ)
  | o :: rest, acc, σ, K => match o.guard with
    | none => dOp P T R o σ fun σ' => dOpsK P T R all rest (opKeys σ o.op.operands.toList :: acc) σ' K
    | some (j, want) => guardK all j fun t => match lkS t σ.s with
      | .un => putS σ o.dst .un fun σ' => dOpsK P T R all rest (opKeys σ o.op.operands.toList :: acc) σ' K
      | .d (.sc (.bool b)) => brM b
          (putS σ (some t) (.d (.sc (.bool true))) fun σ1 => match want with
            | true => dOp P T R o σ1 fun σ' => dOpsK P T R all rest (opKeys σ o.op.operands.toList :: acc) σ' K
            | false => putS σ1 o.dst .un fun σ' => dOpsK P T R all rest (opKeys σ o.op.operands.toList :: acc) σ' K)
          (putS σ (some t) (.d (.sc (.bool false))) fun σ1 => match want with
            | true => putS σ1 o.dst .un fun σ' => dOpsK P T R all rest (opKeys σ o.op.operands.toList :: acc) σ' K
            | false => dOp P T R o σ1 fun σ' => dOpsK P T R all rest (opKeys σ o.op.operands.toList :: acc) σ' K)
      | _ => False

theorem dOpsK_lex (hT : TOK P T) {all : List Oper} : ∀ {l : List Oper} {acc : List (List Nat)} {σ : St} {K : St → Prop}, dOpsK P T R all l acc σ K → ∃ Ks : List (List Nat), clsK R all Ks = true ∧ (∀ j, j < acc.length → Ks.getD j [] = acc.reverse.getD j []) ∧
    dLexK P T R all.toArray (fun j => Ks.getD j []) (AbQ K) l acc.length σ.ab
  | [], acc, σ, K, h => by
    obtain ⟨h1, h2⟩ := (show KeysK R all acc.reverse (K σ) from h).out
    exact ⟨acc.reverse, h1, fun _ _ => rfl, σ, rfl, h2⟩
  | o :: rest, acc, σ, K, h => by
    have go : ∀ (σ' : St) (τ' : Ab), σ'.ab = τ' → dOpsK P T R all rest (opKeys σ o.op.operands.toList :: acc) σ' K → ∃ Ks : List (List Nat), clsK R all Ks = true ∧ (∀ j, j < acc.length → Ks.getD j [] = acc.reverse.getD j []) ∧ Okk (fun j => Ks.getD j []) acc.length o σ.ab ∧
        dLexK P T R all.toArray (fun j => Ks.getD j []) (AbQ K) rest (acc.length + 1) τ' := fun σ' τ' hab h => by
      obtain ⟨Ks, h1, h2, h3⟩ := dOpsK_lex hT h
      refine ⟨Ks, h1, fun j hj => ?_, fun k hk => ?_, by rw [← hab]; exact h3⟩
      · rw [h2 j (by simp; omega)]
        simp only [List.reverse_cons, List.getD_eq_getElem?_getD]
        rw [List.getElem?_append_left (by simpa using hj)]
      · show k ∈ Ks.getD acc.length []
        rw [h2 acc.length (by simp)]
        simp only [List.reverse_cons, List.getD_eq_getElem?_getD]
        rw [List.getElem?_append_right (by simp)]
        simp only [List.length_reverse, Nat.sub_self, List.getElem?_cons_zero, Option.getD_some]
        obtain ⟨x, hx, hk⟩ := hk
        exact opKeys_spec ⟨x, Array.mem_def.1 hx, hk⟩
    have fin : ∀ (σ0 : St), σ0.ab = σ.ab → Wanted all.toArray σ.ab o → dOp P T R o σ0 (fun σ' => dOpsK P T R all rest (opKeys σ o.op.operands.toList :: acc) σ' K) → ∃ Ks : List (List Nat), clsK R all Ks = true ∧ (∀ j, j < acc.length → Ks.getD j [] = acc.reverse.getD j []) ∧
        dLexK P T R all.toArray (fun j => Ks.getD j []) (AbQ K) (o :: rest) acc.length σ.ab := fun σ0 h0 hw h => by
      obtain ⟨e, σ', he, hab, hK⟩ := dOp_out hT h
      rw [h0] at he hab
      obtain ⟨Ks, h1, h2, h3, h4⟩ := go σ' _ rfl hK
      refine ⟨Ks, h1, h2, e, ?_, h3, ?_⟩
      · rcases he with he | he
        · exact .tame e hw he
        · exact .wild e hw he
      · rw [← hab]; exact h4
    have skp : ∀ (σ0 : St), σ0.ab = σ.ab → GEff P T R all.toArray o σ.ab { s := .un } → putS σ0 o.dst .un (fun σ' => dOpsK P T R all rest (opKeys σ o.op.operands.toList :: acc) σ' K) → ∃ Ks : List (List Nat), clsK R all Ks = true ∧ (∀ j, j < acc.length → Ks.getD j [] = acc.reverse.getD j []) ∧
        dLexK P T R all.toArray (fun j => Ks.getD j []) (AbQ K) (o :: rest) acc.length σ.ab := fun σ0 h0 hg h => by
      obtain ⟨σ', hab, hK⟩ := putS_ab h
      rw [h0] at hab
      obtain ⟨Ks, h1, h2, h3, h4⟩ := go σ' _ rfl hK
      refine ⟨Ks, h1, h2, _, hg, h3, ?_⟩
      have e : σ.ab.eff o.dst { s := .un } = σ'.ab := by rw [hab]; rfl
      rw [e]
      exact h4
    unfold dOpsK at h
    split at h
    · rename_i hg
      exact fin σ rfl (.inl hg) h
    · rename_i j want hg
      unfold guardK at h
      obtain ⟨oj, hoj, h⟩ := getK_iff.1 h
      split at h
      case h_2 => exact h.elim
      rename_i t ht
      have hbind : (all.toArray[j]?).bind (·.dst) = some t := by simp [hoj, ht]
      split at h
      · rename_i hs
        exact skp σ rfl (.skip j t want hg hbind (.inl hs)) h
      · rename_i b hs
        cases b with
        | true =>
          obtain ⟨σ1, hab, h⟩ := putS_same hs (brM_tt h)
          cases want with
          | true => exact fin σ1 hab (.inr ⟨j, true, t, hg, hbind, hs⟩) h
          | false => exact skp σ1 hab (.skip j t false hg hbind (.inr hs)) h
        | false =>
          obtain ⟨σ1, hab, h⟩ := putS_same hs (brM_ff h)
          cases want with
          | true => exact skp σ1 hab (.skip j t true hg hbind (.inr hs)) h
          | false => exact fin σ1 hab (.inr ⟨j, false, t, hg, hbind, hs⟩) h
      · exact h.elim

/-! ### Code -/
def Good (P : Program) (n : Nat) (c : Code) (Q : Exit → St → Prop) (σ : St) : Prop :=
  ∀ (X : Env) (w0 : World) (M0 : Mem) (ac : Act) (w : World), Sim X w0 M0 n σ.ab ac w → c.wp P (fun e ac' w' => ∃ σ', Sim X w0 M0 n σ'.ab ac' w' ∧ Q e σ') ac w

structure LoopK (P : Program) (n : Nat) (c : Code) (Q : Exit → St → Prop) (σ : St) : Prop where
  out : Good P n (.loop c) Q σ

def thenS (next : St → Prop) (Q : Exit → St → Prop) (e : Exit) (σ : St) : Prop :=
  match e with
  | .normal => next σ
  | e => Q e σ
def inBlk (id : Nat) (Q : Exit → St → Prop) (e : Exit) (σ : St) : Prop :=
  match e with
  | .exit j => (match Nat.beq j id with
    | true => Q .normal σ
    | false => Q (.exit j) σ)
  | e => Q e σ

def condK (σ : St) (c : Operand) (A B : St → Prop) : Prop :=
  match valS σ c with
  | .d (.sc (.bool b)) => (match c with
    | .tmp t => brM b (putS σ (some t) (.d (.sc (.bool true))) A) (putS σ (some t) (.d (.sc (.bool false))) B)
    | _ => brM b (A σ) (B σ))
  | _ => False

theorem condK_spec {σ : St} {c : Operand} {A B : St → Prop} (h : condK σ c A B) : ∃ b σ', valS σ c = .d (.sc (.bool b)) ∧ σ'.ab = σ.ab ∧ (if b then A σ' else B σ') := by
  unfold condK at h
  split at h
  case h_2 => exact h.elim
  rename_i b hv
  split at h
  · cases b with
    | true => obtain ⟨σ', h1, h2⟩ := putS_same hv (brM_tt h); exact ⟨true, σ', hv, h1, h2⟩
    | false => obtain ⟨σ', h1, h2⟩ := putS_same hv (brM_ff h); exact ⟨false, σ', hv, h1, h2⟩
  · cases b
    · exact ⟨false, σ, hv, rfl, h⟩
    · exact ⟨true, σ, hv, rfl, h⟩

/-- R: the regions whose operands are listed. -/
def dCR (P : Program) (T : Tys) (n : Nat) (R : List Nat) : Code → (Exit → St → Prop) → St → Prop
  | .skip, Q, σ => Q .normal σ
  | .region id ops draw, Q, σ => (match draw with
    | false => dOpsE P T R ops.toList ops.toList σ (Q .normal)
    | true => (match memB id R with
      | true => dOpsK P T R ops.toList ops.toList [] σ (Q .normal)
      | false => dOps P T R ops.toList ops.toList σ (Q .normal)))
  | .seq a b, Q, σ => dCR P T n R a (thenS (dCR P T n R b Q) Q) σ
  | .cond c x y, Q, σ => condK σ c (dCR P T n R x Q) (dCR P T n R y Q)
  | .block id c, Q, σ => dCR P T n R c (inBlk id Q) σ
  | .loop c, Q, σ => LoopK P n c Q σ
  | .exit id, Q, σ => Q (.exit id) σ
  | .ret, Q, σ => Q .ret σ
  | _, _, _ => False
abbrev dC (P : Program) (T : Tys) (n : Nat) : Code → (Exit → St → Prop) → St → Prop := dCR P T n []

def regB (n : Nat) (R : List Nat) (id : Nat) (l : List Oper) (draw : Bool) : Bool := dstB n l && (!draw || (Region.lexB .any l.toArray && (memB id R || clsB R l)))
def codeBR (n : Nat) (R : List Nat) : Code → Bool
  | .region id ops draw => regB n R id ops.toList draw
  | .seq a b => codeBR n R a && codeBR n R b
  | .cond _ a b => codeBR n R a && codeBR n R b
  | .block _ c => codeBR n R c
  | .loop c => codeBR n R c
  | _ => true
abbrev codeB (n : Nat) : Code → Bool := codeBR n []

theorem Good.mono {n : Nat} {c : Code} {Q Q' : Exit → St → Prop} {σ : St} (h : Good P n c Q σ) (hq : ∀ e σ, Q e σ → Q' e σ) : Good P n c Q' σ :=
  fun X w0 M0 ac w hs => wp_mono (h X w0 M0 ac w hs) fun _ _ _ ⟨σ', h1, h2⟩ => ⟨σ', h1, hq _ _ h2⟩

theorem Good.ofAb {n : Nat} {c : Code} {Q : Exit → St → Prop} {σ σ' : St} (hab : σ'.ab = σ.ab) (h : Good P n c Q σ') : Good P n c Q σ :=
  fun X w0 M0 ac w hs => h X w0 M0 ac w (by rw [hab]; exact hs)

theorem good_of_dCR (hm : P.follows .mixedOrders = true) (hT : TOK P T) (n : Nat) (R : List Nat) : ∀ (c : Code) {Q : Exit → St → Prop} {σ : St}, codeBR n R c = true → dCR P T n R c Q σ → Good P n c Q σ
  | .skip, Q, σ, _, h => fun X w0 M0 ac w hs => wp_skip ⟨σ, hs, h⟩
  | .region id ops draw, Q, σ, hb, h => fun X w0 M0 ac w hs => by
    obtain ⟨l⟩ := ops
    simp only [codeBR, regB, Bool.and_eq_true, Bool.or_eq_true, Bool.not_eq_true'] at hb
    have hQ : ∀ τ ac w, AbQ (Q .normal) τ → Sim X w0 M0 n τ ac w → ∃ σ', Sim X w0 M0 n σ'.ab ac w ∧ Q .normal σ' := fun τ ac w ⟨σ', e, hq⟩ hs' => ⟨σ', by rw [e]; exact hs', hq⟩
    cases draw with
    | false =>
      have h0 : dOpsE P T R l l σ (Q .normal) := h
      exact region_plain (Q := fun e ac' w' => ∃ σ', Sim X w0 M0 n σ'.ab ac' w' ∧ Q e σ') hT hb.1 (dOpsE_lex (P := P) (T := T) hT (all := l) (l := l) h0) hs hQ
    | true =>
    have h0 : (match memB id R with
      | true => dOpsK P T R l l [] σ (Q .normal)
      | false => dOps P T R l l σ (Q .normal)) := h
    cases hR : memB id R with
    | true =>
      rw [hR] at h0
      obtain ⟨Ks, k1, _, k2⟩ := dOpsK_lex (P := P) (T := T) hT (all := l) (l := l) h0
      rcases hb.2 with h1 | h1
      · cases h1
      · exact region_drawK (Q := fun e ac' w' => ∃ σ', Sim X w0 M0 n σ'.ab ac' w' ∧ Q e σ') hm hT h1.1 k1 hb.1 k2 hs hQ
    | false =>
    rw [hR] at h0 hb
    have hd := dOps_lex (P := P) (T := T) hT (all := l) (l := l) h0
    rcases hb.2 with h1 | h1
    · cases h1
    · have h2 : clsB R l = true := by simpa using h1.2
      exact region_draw (Q := fun e ac' w' => ∃ σ', Sim X w0 M0 n σ'.ab ac' w' ∧ Q e σ') hm hT h1.1 h2 hb.1 hd hs hQ
  | .seq a b, Q, σ, hb, h => fun X w0 M0 ac w hs => by
    simp only [codeBR, Bool.and_eq_true] at hb
    refine wp_seq (wp_mono (good_of_dCR hm hT n R a hb.1 h X w0 M0 ac w hs) fun e ac' w' ⟨σ', h1, h2⟩ => ?_)
    cases e with
    | normal => exact good_of_dCR hm hT n R b hb.2 h2 X w0 M0 ac' w' h1
    | _ => exact ⟨σ', h1, h2⟩
  | .cond c x y, Q, σ, hb, h => fun X w0 M0 ac w hs => by
    simp only [codeBR, Bool.and_eq_true] at hb
    obtain ⟨b, σ', hv, hab, h⟩ := condK_spec (A := dCR P T n R x Q) (B := dCR P T n R y Q) h
    have hbv : ac.eval c = .bool b := by
      obtain ⟨M, γ, hsw⟩ := hs
      have := hsw.val c
      rw [← valS_ab, hv] at this
      exact rep_sc this
    rw [← hab] at hs
    cases b with
    | true => exact wp_cond_true hbv (good_of_dCR hm hT n R x hb.1 h X w0 M0 ac w hs)
    | false => exact wp_cond_false hbv (good_of_dCR hm hT n R y hb.2 h X w0 M0 ac w hs)
  | .block id c, Q, σ, hb, h => fun X w0 M0 ac w hs => by
    refine wp_block (wp_mono (good_of_dCR hm hT n R c hb h X w0 M0 ac w hs) fun e ac' w' ⟨σ', h1, h2⟩ => ?_)
    cases e with
    | exit j =>
      simp only [Exit.inBlock]
      simp only [inBlk] at h2
      split
      · rename_i e
        rw [(beq_iff j id).2 e] at h2
        exact ⟨σ', h1, h2⟩
      · rename_i e
        rw [(beq_not j id).2 e] at h2
        exact ⟨σ', h1, h2⟩
    | _ => exact ⟨σ', h1, h2⟩
  | .loop c, Q, σ, _, h => by
    have h : LoopK P n c Q σ := h
    replace h := h.out
    exact h
  | .exit id, Q, σ, _, h => fun X w0 M0 ac w hs => wp_exit ⟨σ, hs, h⟩
  | .ret, Q, σ, _, h => fun X w0 M0 ac w hs => wp_ret ⟨σ, hs, h⟩
  | .rangeFunc .., _, _, _, h => h.elim
  | .scope _, _, _, _, h => h.elim
  | .label _, _, _, _, h => h.elim
  | .goto _, _, _, _, h => h.elim
  | .refuse _, _, _, _, h => h.elim
theorem good_of_dC (hm : P.follows .mixedOrders = true) (hT : TOK P T) (n : Nat) (c : Code) {Q : Exit → St → Prop} {σ : St} (hb : codeB n c = true) (h : dC P T n c Q σ) : Good P n c Q σ := good_of_dCR hm hT n [] c hb h

/-! ### Weaker states -/
def Weak (σ σ' : St) : Prop := ∀ (X : Env) (w0 : World) (M0 : Mem) (n : Nat) (ac : Act) (w : World), Sim X w0 M0 n σ.ab ac w → Sim X w0 M0 n σ'.ab ac w

/-- What is kept of a slot: plain data; an own array, under a new key; an own array, frozen. -/
inductive Kp where
  | pl
  | key (k : Nat)
  | fz

/-- A lent array keeps its key. -/
def pinB (k k' : Nat) : Bool := match Nat.ble 100000 k' with
  | true => Nat.beq k k'
  | false => true
theorem pinB_spec {k k' : Nat} (h : pinB k k' = true) (hk : 100000 ≤ k') : k = k' := by
  unfold pinB at h
  rw [Nat.ble_eq_true_of_le hk] at h
  exact Nat.eq_of_beq_eq_true h
def normK : List (Nat × Kp) → St → List Nat → (St → Prop) → Prop
  | [], _, _, K => K ⟨[], [], []⟩
  | (t, .pl) :: r, σ, olds, K => (match lkS t σ.s with
    | .d x => normK r σ olds fun st => K ⟨(t, .d x) :: st.s, st.c, st.sh⟩
    | .el x => normK r σ olds fun st => K ⟨(t, .el x) :: st.s, st.c, st.sh⟩
    | .un => normK r σ olds fun st => K ⟨(t, .un) :: st.s, st.c, st.sh⟩
    | .nil => normK r σ olds fun st => K ⟨(t, .nil) :: st.s, st.c, st.sh⟩
    | .fn f => normK r σ olds fun st => K ⟨(t, .fn f) :: st.s, st.c, st.sh⟩
    | _ => normK r σ olds K)
  | (t, .key k') :: r, σ, olds, K => (match lkS t σ.s with
    | .av k m => (match lkC k σ.c, memB k olds, pinB k k' with
      | some (some A), false, true => normK r σ (k :: olds) fun st => (match lkC k' st.c with
        | none => K ⟨(t, .av k' m) :: st.s, (k', some A) :: st.c, (match memB k σ.sh with | true => k' :: st.sh | false => st.sh)⟩
        | some _ => False)
      | _, _, _ => False)
    | .ae k i => (match lkC k σ.c, memB k olds, pinB k k' with
      | some (some A), false, true => normK r σ (k :: olds) fun st => (match lkC k' st.c with
        | none => K ⟨(t, .ae k' i) :: st.s, (k', some A) :: st.c, (match memB k σ.sh with | true => k' :: st.sh | false => st.sh)⟩
        | some _ => False)
      | _, _, _ => False)
    | _ => False)
  | (t, .fz) :: r, σ, olds, K => (match lkS t σ.s with
    | .av k m => (match lkC k σ.c, memB k olds with
      | some (some A), false => takeK m A.xs fun xs => normK r σ (k :: olds) fun st => K ⟨(t, .d (.sl xs)) :: st.s, st.c, st.sh⟩
      | _, _ => False)
    | .nil => normK r σ olds fun st => K ⟨(t, .d (.sl [])) :: st.s, st.c, st.sh⟩
    | .d x => normK r σ olds fun st => K ⟨(t, .d x) :: st.s, st.c, st.sh⟩
    | _ => False)

inductive SlotTo (σ : St) (c' : List (Nat × Option Arr)) (ρ : Nat → Nat) (fz : List Nat) : S → S → Prop
  | junk (s : S) : SlotTo σ c' ρ fz s .junk
  | same (s : S) (h : ∀ k, ¬ refS s k) : SlotTo σ c' ρ fz s s
  | av (k' m : Nat) (h : (lkC k' c').isSome = true) : SlotTo σ c' ρ fz (.av (ρ k') m) (.av k' m)
  | ae (k' i : Nat) (h : (lkC k' c').isSome = true) : SlotTo σ c' ρ fz (.ae (ρ k') i) (.ae k' i)
  | fz (k m : Nat) (A : Arr) (hk : k ∈ fz) (h : lkC k σ.c = some (some A)) : SlotTo σ c' ρ fz (.av k m) (.d (.sl (A.xs.take m)))
  | nil : SlotTo σ c' ρ fz .nil (.d (.sl []))

structure NormOK (σ : St) (olds : List Nat) (σ' : St) (ρ : Nat → Nat) (fz : List Nat) : Prop where
  sl : ∀ t, SlotTo σ σ'.c ρ fz (lkS t σ.s) (lkS t σ'.s)
  cc : ∀ k' a, lkC k' σ'.c = some a → ∃ A, a = some A ∧ lkC (ρ k') σ.c = some (some A) ∧ memB (ρ k') olds = false ∧ ρ k' ∉ fz ∧ (memB (ρ k') σ.sh = true → memB k' σ'.sh = true)
  inj : ∀ k1 k2, (lkC k1 σ'.c).isSome = true → (lkC k2 σ'.c).isSome = true → ρ k1 = ρ k2 → k1 = k2
  fzl : ∀ k ∈ fz, memB k olds = false
  pin : ∀ k', (lkC k' σ'.c).isSome = true → 100000 ≤ k' → ρ k' = k'

theorem SlotTo.ext {σ : St} {c c' : List (Nat × Option Arr)} {ρ ρ' : Nat → Nat} {fz fz' : List Nat} {s s' : S} (h : SlotTo σ c ρ fz s s') (hc : ∀ k, (lkC k c).isSome = true → (lkC k c').isSome = true ∧ ρ' k = ρ k) (hf : ∀ k ∈ fz, k ∈ fz') :
    SlotTo σ c' ρ' fz' s s' := by
  cases h with
  | junk => exact .junk _
  | same _ h => exact .same _ h
  | av k' m h => obtain ⟨h1, h2⟩ := hc k' h; rw [← h2]; exact .av k' m h1
  | ae k' i h => obtain ⟨h1, h2⟩ := hc k' h; rw [← h2]; exact .ae k' i h1
  | fz k m A hk h => exact .fz k m A (hf k hk) h
  | nil => exact .nil

theorem memB_cons (k j : Nat) (l : List Nat) : memB k (j :: l) = true ↔ k = j ∨ memB k l = true := by
  simp only [memB_iff]; simp

theorem norm_plain {σ : St} {olds : List Nat} {σ' : St} {ρ : Nat → Nat} {fz : List Nat} (h : NormOK σ olds σ' ρ fz) {t : Nat} {s : S} (hs : SlotTo σ σ'.c ρ fz (lkS t σ.s) s) : NormOK σ olds ⟨(t, s) :: σ'.s, σ'.c, σ'.sh⟩ ρ fz := by
  refine ⟨fun j => ?_, h.cc, h.inj, h.fzl, h.pin⟩
  rw [lkS_cons]
  split
  · rename_i e; rw [e]; exact hs
  · exact h.sl j

theorem norm_key {σ : St} {olds : List Nat} {σ' : St} {ρ : Nat → Nat} {fz : List Nat} {k k' : Nat} {A : Arr} (h : NormOK σ (k :: olds) σ' ρ fz) (hA : lkC k σ.c = some (some A)) (ho : memB k olds = false) (hpin : 100000 ≤ k' → k = k') (hn : lkC k' σ'.c = none) {t : Nat} {s' : S}
    (hs : ∀ ρ' c', ρ' k' = k → (lkC k' c').isSome = true → SlotTo σ c' ρ' fz (lkS t σ.s) s') :
    ∃ ρ' fz', NormOK σ olds ⟨(t, s') :: σ'.s, (k', some A) :: σ'.c, (match memB k σ.sh with | true => k' :: σ'.sh | false => σ'.sh)⟩ ρ' fz' := by
  refine ⟨fun j => if j = k' then k else ρ j, fz, ?_⟩
  have hne : ∀ j, (lkC j σ'.c).isSome = true → j ≠ k' := fun j hj e => by rw [e, hn] at hj; cases hj
  have hold : ∀ j, memB j (k :: olds) = false → j ≠ k ∧ memB j olds = false := fun j hj => by
    refine ⟨fun e => ?_, ?_⟩
    · subst e
      have := (memB_cons j j olds).2 (.inl rfl)
      rw [hj] at this; cases this
    · cases hm : memB j olds with
      | false => rfl
      | true =>
        have := (memB_cons j k olds).2 (.inr hm)
        rw [hj] at this; cases this
  refine ⟨fun j => ?_, fun j a hj => ?_, fun k1 k2 h1 h2 he => ?_, fun j hj => (hold j (h.fzl j hj)).2, fun j hj hjp => ?_⟩
  · simp only [lkS_cons]
    split
    · rename_i e; rw [e]
      exact hs _ _ (by simp) (by simp [lkC_cons])
    · exact (h.sl j).ext (fun k0 hk0 => ⟨by rw [lkC_cons, if_neg (hne k0 hk0)]; exact hk0, by simp [hne k0 hk0]⟩) fun _ h => h
  · simp only [lkC_cons] at hj
    by_cases e : j = k'
    · rw [if_pos e] at hj
      injection hj with hj
      subst hj
      simp only [e, if_true]
      refine ⟨A, rfl, hA, ho, fun hk => ?_, fun hsh => ?_⟩
      · exact (hold k (h.fzl k hk)).1 rfl
      · rw [hsh]; exact (memB_cons k' k' σ'.sh).2 (.inl rfl)
    · rw [if_neg e] at hj
      obtain ⟨A', a1, a2, a3, a4, a5⟩ := h.cc j a hj
      simp only [e, if_false]
      refine ⟨A', a1, a2, (hold _ a3).2, a4, fun hsh => ?_⟩
      have := a5 hsh
      split
      · exact (memB_cons j k' σ'.sh).2 (.inr this)
      · exact this
  · simp only [lkC_cons] at h1 h2
    by_cases e1 : k1 = k' <;> by_cases e2 : k2 = k'
    · rw [e1, e2]
    · exfalso
      rw [if_neg e2] at h2
      simp only [e1, if_true, e2, if_false] at he
      obtain ⟨a, ha⟩ := Option.isSome_iff_exists.1 h2
      obtain ⟨_, _, _, a3, _⟩ := h.cc k2 a ha
      exact (hold _ a3).1 he.symm
    · exfalso
      rw [if_neg e1] at h1
      simp only [e1, if_false, e2, if_true] at he
      obtain ⟨a, ha⟩ := Option.isSome_iff_exists.1 h1
      obtain ⟨_, _, _, a3, _⟩ := h.cc k1 a ha
      exact (hold _ a3).1 he
    · rw [if_neg e1] at h1
      rw [if_neg e2] at h2
      simp only [e1, if_false, e2] at he
      exact h.inj k1 k2 h1 h2 he
  · show (if j = k' then k else ρ j) = j
    by_cases e : j = k'
    · rw [if_pos e, hpin (by omega), e]
    · rw [if_neg e]
      simp only [lkC_cons, if_neg e] at hj
      exact h.pin j hj hjp

theorem normK_ok : ∀ {l : List (Nat × Kp)} {σ : St} {olds : List Nat} {K : St → Prop}, normK l σ olds K → ∃ σ' ρ fz, NormOK σ olds σ' ρ fz ∧ K σ'
  | [], σ, olds, K, h => ⟨_, id, [], ⟨fun t => .junk _, fun k' a hk => by simp [lkC] at hk, fun k1 k2 h1 => by simp [lkC] at h1, fun k hk => by simp at hk, fun k' hk => by simp [lkC] at hk⟩, h⟩
  | (t, .pl) :: r, σ, olds, K, h => by
    have go : ∀ s, lkS t σ.s = s → (∀ k, ¬ refS s k) → normK r σ olds (fun st => K ⟨(t, s) :: st.s, st.c, st.sh⟩) → ∃ σ' ρ fz, NormOK σ olds σ' ρ fz ∧ K σ' := fun s hs hr h => by
      obtain ⟨σ', ρ, fz, hn, hK⟩ := normK_ok h
      exact ⟨_, ρ, fz, norm_plain hn (by rw [hs]; exact .same s hr), hK⟩
    unfold normK at h
    split at h
    · rename_i x hs; exact go _ hs (fun _ h => h) h
    · rename_i x hs; exact go _ hs (fun _ h => h) h
    · rename_i hs; exact go _ hs (fun _ h => h) h
    · rename_i hs; exact go _ hs (fun _ h => h) h
    · rename_i f hs; exact go _ hs (fun _ h => h) h
    · exact normK_ok h
  | (t, .key k') :: r, σ, olds, K, h => by
    unfold normK at h
    split at h
    · rename_i k m hs
      split at h
      · rename_i A hA ho hpb
        obtain ⟨σ', ρ, fz, hn, hK⟩ := normK_ok h
        split at hK
        · rename_i hnone
          obtain ⟨ρ', fz', h2⟩ := norm_key hn hA ho (pinB_spec hpb) hnone (t := t) (s' := .av k' m) fun ρ' c' e hc => by rw [hs, ← e]; exact .av k' m hc
          exact ⟨_, ρ', fz', h2, hK⟩
        · exact hK.elim
      · exact h.elim
    · rename_i k i hs
      split at h
      · rename_i A hA ho hpb
        obtain ⟨σ', ρ, fz, hn, hK⟩ := normK_ok h
        split at hK
        · rename_i hnone
          obtain ⟨ρ', fz', h2⟩ := norm_key hn hA ho (pinB_spec hpb) hnone (t := t) (s' := .ae k' i) fun ρ' c' e hc => by rw [hs, ← e]; exact .ae k' i hc
          exact ⟨_, ρ', fz', h2, hK⟩
        · exact hK.elim
      · exact h.elim
    · exact h.elim
  | (t, .fz) :: r, σ, olds, K, h => by
    unfold normK at h
    split at h
    · rename_i k m hs
      split at h
      · rename_i A hA ho
        obtain ⟨σ', ρ, fz, hn, hK⟩ := normK_ok (takeK_iff.1 h)
        have hold : ∀ j, memB j (k :: olds) = false → j ≠ k ∧ memB j olds = false := fun j hj => by
          refine ⟨fun e => ?_, ?_⟩
          · subst e
            have := (memB_cons j j olds).2 (.inl rfl)
            rw [hj] at this; cases this
          · cases hm : memB j olds with
            | false => rfl
            | true =>
              have := (memB_cons j k olds).2 (.inr hm)
              rw [hj] at this; cases this
        refine ⟨⟨(t, .d (.sl (A.xs.take m))) :: σ'.s, σ'.c, σ'.sh⟩, ρ, k :: fz, ⟨fun j => ?_, fun j a hj => ?_, hn.inj, fun j hj => ?_, hn.pin⟩, hK⟩
        · simp only [lkS_cons]
          split
          · rename_i e; rw [e, hs]; exact .fz k m A List.mem_cons_self hA
          · exact (hn.sl j).ext (fun k0 hk0 => ⟨hk0, rfl⟩) fun _ h => List.mem_cons_of_mem _ h
        · obtain ⟨A', a1, a2, a3, a4, a5⟩ := hn.cc j a hj
          refine ⟨A', a1, a2, (hold _ a3).2, fun hm => ?_, a5⟩
          rcases List.mem_cons.1 hm with e | e
          · exact (hold _ a3).1 e
          · exact a4 e
        · rcases List.mem_cons.1 hj with e | e
          · rw [e]; exact ho
          · exact (hold j (hn.fzl j e)).2
      · exact h.elim
    · rename_i hs
      obtain ⟨σ', ρ, fz, hn, hK⟩ := normK_ok h
      exact ⟨_, ρ, fz, norm_plain hn (by rw [hs]; exact .nil), hK⟩
    · rename_i x hs
      obtain ⟨σ', ρ, fz, hn, hK⟩ := normK_ok h
      exact ⟨_, ρ, fz, norm_plain hn (by rw [hs]; exact .same _ (fun _ h => h)), hK⟩
    · exact h.elim

theorem weak_of_norm {σ σ' : St} {ρ : Nat → Nat} {fz : List Nat} (h : NormOK σ [] σ' ρ fz) : Weak σ σ' := by
  intro X w0 M0 n ac w hs
  obtain ⟨M, γ, hs⟩ := hs
  -- share what is frozen
  have hshare : ∀ (l : List Nat) (τ : Ab) (M : Mem), (∀ k, τ.c k = σ.ab.c k) → SimW X w0 M0 n τ ac w M γ →
      ∃ M', SimW X w0 M0 n (τ.shares (l.filter fun k => (σ.ab.c k).isSome)) ac w M' γ ∧ Mem.le M M' ∧ ∀ k ∈ l, ∀ A, σ.ab.c k = some A → ∀ m, m ≤ A.xs.length → Rep M' (.sl (A.xs.take m)) (cutV (γ k) m) := by
    intro l
    induction l with
    | nil => exact fun τ M hc hs => ⟨M, hs, Mem.le_refl M, fun k hk => by simp at hk⟩
    | cons k l ih =>
      intro τ M hc hs
      cases hk : σ.ab.c k with
      | none =>
        obtain ⟨M', h1, h2, h3⟩ := ih τ M hc hs
        refine ⟨M', by simpa [hk] using h1, h2, fun j hj A hA => ?_⟩
        rcases List.mem_cons.1 hj with e | e
        · rw [e, hk] at hA; cases hA
        · exact h3 j e A hA
      | some A =>
        obtain ⟨M1, h1, l1, r1⟩ := hs.share (k := k) (m := A.xs.length) (by rw [hc]; exact hk) (Nat.le_refl _)
        obtain ⟨M', h2, l2, h3⟩ := ih (τ.share k) M1 hc h1
        refine ⟨M', by simpa [hk, Ab.shares] using h2, Mem.le_trans l1 l2, fun j hj B hB m hm => ?_⟩
        rcases List.mem_cons.1 hj with e | e
        · subst e
          rw [hk] at hB
          cases hB
          -- a prefix of what is shared
          obtain ⟨_, hr⟩ := hs.ow j A (by rw [hc]; exact hk)
          have hlen := List.take_length (l := A.xs)
          rw [hlen] at r1
          have r2 := r1.mono l2
          rcases ownBlock_live hs (k := j) (A := A) (by rw [hc]; exact hk) with ⟨hg, hn⟩ | ⟨g, cap, hg, hnc, hcm⟩
          · have hm0 : m = 0 := by rw [hn] at hm; simpa using hm
            subst hm0
            rw [hg]
            exact .nil _ _
          · rw [hg] at r2 ⊢
            have hwid : ∃ W, ∀ y ∈ A.xs, y.width = W := by
              obtain ⟨⟨cs, _, hcs, _⟩, _, _⟩ := hr
              exact ⟨A.sz, fun y hy => by obtain ⟨i, hi⟩ := List.getElem?_of_mem hy; exact (hcs.2 i y hi).1⟩
            obtain ⟨W, hW⟩ := hwid
            obtain ⟨a, cap', e1, e2, e3⟩ := slice_sl r2 (l := 0) (k := m) (Nat.zero_le _) hm hW
            simp only [cutV] at e1
            injection e1 with e4 e5 e6
            subst e4; subst e6
            simp only [cutV]
            have e7 : (if cap = 0 then some (⟨g, 0, none⟩ : Addr) else (some (⟨g, 0, none⟩ : Addr)).map (·.add (0 * W))) = some ⟨g, 0, none⟩ := by split <;> simp [Addr.add]
            rw [e7] at e3
            simpa using e3
        · exact h3 j e B hB m hm
  obtain ⟨M1, h1, l1, r1⟩ := hshare fz σ.ab M (fun _ => rfl) hs
  have hsh : ∀ k, (σ.ab.shares (fz.filter fun k => (σ.ab.c k).isSome)).sh k = true → σ.ab.sh k = true ∨ k ∈ fz := fun k hk => by
    rw [shares_sh] at hk
    simp only [Bool.or_eq_true] at hk
    rcases hk with e | e
    · exact .inl e
    · right
      have := List.elem_iff.1 e
      exact (List.mem_filter.1 this).1
  have hc1 := (shares_c σ.ab (fz.filter fun k => (σ.ab.c k).isSome)).1
  have hc : ∀ k' A, σ'.ab.c k' = some A → lkC k' σ'.c = some (some A) := fun k' A hA => by
    simp only [St.ab] at hA
    split at hA
    · rename_i A' e; cases hA; exact e
    · cases hA
  refine ⟨M1, fun k' => γ (ρ k'), ⟨hs.dfr, hs.fsz, hs.os, hs.tape, hs.output, hs.hsz, hs.frame, h1.m0, h1.mw, h1.mn, fun t => ?_, fun k' A hA => ?_, fun k1 k2 A1 A2 g g1 g2 e1 e2 => ?_, fun k' v hk' => ?_⟩⟩
  · have ht := h.sl t
    have hv := hs.slots t
    change RepS M1 σ'.ab _ (lkS t σ'.s) _
    change RepS M σ.ab γ (lkS t σ.s) _ at hv
    generalize lkS t σ.s = s0 at ht hv
    generalize lkS t σ'.s = s1 at ht
    cases ht with
    | junk => trivial
    | same _ hr =>
      cases s0 with
      | av k m => exact absurd rfl (hr k)
      | ae k i => exact absurd rfl (hr k)
      | af k i f => exact absurd rfl (hr k)
      | tup xs =>
        obtain ⟨vs, a, b, c⟩ := hv
        refine ⟨vs, a, b, fun j s hj => ?_⟩
        have := c j s hj
        cases s with
        | d x => exact Rep.mono l1 this
        | av k m => exact absurd ⟨_, List.mem_of_getElem? hj, rfl⟩ (hr k)
      | junk => trivial
      | un => exact hv
      | nil => exact hv
      | d x => exact Rep.mono l1 hv
      | el x => obtain ⟨ad, a, b⟩ := hv; exact ⟨ad, a, b.mono l1⟩
      | fn f => exact hv
    | av k' m hk =>
      refine ⟨hk, fun A hA => ?_⟩
      obtain ⟨A', a1, a2, _⟩ := h.cc k' _ (hc k' A hA)
      cases a1
      exact hv.2 A (live a2)
    | ae k' i hk =>
      refine ⟨hk, fun A hA => ?_⟩
      obtain ⟨A', a1, a2, _⟩ := h.cc k' _ (hc k' A hA)
      cases a1
      exact hv.2 A (live a2)
    | fz k m A hk hA =>
      obtain ⟨hm, e⟩ := hv.2 A (live hA)
      rw [e]
      exact r1 k hk A (live hA) m hm
    | nil => rw [show ac.tmps.getD t undef = .slice none 0 0 from hv]; exact Rep.nil _ _
  · obtain ⟨A', a1, a2, _, a4, a5⟩ := h.cc k' _ (hc k' A hA)
    cases a1
    obtain ⟨b1, b2⟩ := h1.ow (ρ k') A (by rw [hc1]; exact live a2)
    refine ⟨by simp [St.ab, hc k' A hA], b2.keep (Mem.le_refl M1) (fun _ _ => rfl) (fun _ _ _ _ _ hu => hu) fun hsh' => ?_⟩
    rcases hsh (ρ k') hsh' with e | e
    · exact a5 e
    · exact absurd e a4
  · obtain ⟨B1, _, b1, _⟩ := h.cc k1 _ (hc k1 A1 g1)
    obtain ⟨B2, _, b2, _⟩ := h.cc k2 _ (hc k2 A2 g2)
    exact h.inj k1 k2 (by rw [hc k1 A1 g1]; rfl) (by rw [hc k2 A2 g2]; rfl) (hs.di (ρ k1) (ρ k2) B1 B2 g (live b1) (live b2) e1 e2)
  · obtain ⟨p1, p2, p3⟩ := hs.pin k' v hk'
    refine ⟨p1, p2, fun A hA => ?_⟩
    have hl := hc k' A hA
    have e := h.pin k' (by rw [hl]; rfl) p1
    obtain ⟨A', a1, a2, _⟩ := h.cc k' _ hl
    show γ (ρ k') = v
    rw [e] at a2 ⊢
    exact p3 A' (live a2)

theorem normK_weak {l : List (Nat × Kp)} {σ : St} {K : St → Prop} (h : normK l σ [] K) : ∃ σ', Weak σ σ' ∧ K σ' := by
  obtain ⟨σ', ρ, fz, h1, h2⟩ := normK_ok h
  exact ⟨σ', weak_of_norm h1, h2⟩
end
end Go.DL
