/- Part of an evaluator of Go code on plain data, proved sound for the model: lemmas alone, for every program; each states its own conditions. -/
import Derived.Test.YtjhjedfnjimflaaEngJ
namespace Go.DL
open Go.RowKit

def cls (R : List Nat) : Op → Nat
  | .move _ | .assign _ | .pick .. | .binOp .. | .unOp .. | .field .. | .index .. | .extract .. | .convert .. | .makeFunc .. => 0
  | .call { callee := .builtin .min, .. } | .call { callee := .builtin .max, .. } => 0
  | .store .. | .call { callee := .builtin .append, .. } => 2
  | .call { callee := .value (.func f), .. } => if R.contains (100000 + f) then 2 else 1
  | _ => 1

def compat (R : List Nat) (a b : Op) : Bool := cls R a == 0 || cls R b == 0 || (cls R a == 1 && cls R b == 1)

section
variable {P : Program} {T : Tys} {R : List Nat}

theorem cls_call (R : List Nat) (fx : Operand) (args : Array Operand) (tys : Array TypeId) : cls R (.call { callee := .value fx, args, argTypes := tys }) ≠ 0 := by
  cases fx with
  | func f => simp only [cls]; split <;> decide
  | _ => simp [cls]
theorem TEff.plain {o : Oper} {τ : Ab} {e : Ef} (h : TEff P T o τ e) (hc : cls R o.op = 0) : ∃ s, e = { s } ∧ PEff P T o.op τ.val s := by
  cases h with
  | pure s h => exact ⟨s, rfl, h⟩
  | alloc _ _ _ ho => rw [ho] at hc; simp [cls] at hc
  | box _ _ _ _ _ ho => rw [ho] at hc; simp [cls] at hc
  | build _ _ _ _ _ ho => rw [ho] at hc; simp [cls] at hc
  | buildSlice _ _ _ _ _ _ _ _ ho => rw [ho] at hc; simp [cls] at hc
  | makeSlice _ _ _ _ _ _ _ _ _ ho => rw [ho] at hc; simp [cls] at hc
  | loadE _ _ _ _ ho => rw [ho] at hc; simp [cls] at hc
  | loadA _ _ _ _ _ _ _ ho => rw [ho] at hc; simp [cls] at hc
  | loadF _ _ _ _ _ _ _ _ _ ho => rw [ho] at hc; simp [cls] at hc
  | fieldA _ _ _ _ _ _ _ ho => rw [ho] at hc; simp [cls] at hc
  | sliceA _ _ _ _ _ _ _ _ _ ho => rw [ho] at hc; simp [cls] at hc
  | indexA _ _ _ _ _ _ _ _ _ _ ho => rw [ho] at hc; simp [cls] at hc
  | lenA _ _ _ _ _ _ ho => rw [ho] at hc; simp [cls] at hc
  | nilA _ _ _ _ ho => rw [ho] at hc; simp [cls] at hc
  | call _ _ _ _ _ _ _ _ _ ho => rw [ho] at hc; exact absurd hc (cls_call R _ _ _)
  | callFlat _ _ _ _ _ _ _ _ ho => rw [ho] at hc; exact absurd hc (cls_call R _ _ _)

theorem WEff.cls2 {o : Oper} {τ : Ab} {e : Ef} (h : WEff P T R o τ e) : cls R o.op = 2 := by
  cases h with
  | storeA _ _ _ _ _ _ _ _ _ ho => rw [ho]; rfl
  | storeF _ _ _ _ _ _ _ _ _ _ _ ho => rw [ho]; rfl
  | appendA _ _ _ _ _ _ _ _ _ _ ho => rw [ho]; rfl
  | appendN _ _ _ _ _ _ _ ho => rw [ho]; rfl
  | lcall fx _ _ f _ _ _ _ _ _ _ _ ho hfx hL => rw [ho, hfx]; simp only [cls]; rw [if_pos hL]

theorem TEff.shape {o : Oper} {τ : Ab} {e : Ef} (h : TEff P T o τ e) : e.ki = none ∧ e.up = none ∧ ∀ k A, e.al = some (k, A) → o.dst = some k ∧ τ.us k = false := by
  cases h with
  | alloc t ty d ho hd hu => exact ⟨rfl, rfl, fun k A h => by cases h; exact ⟨hd, hu⟩⟩
  | box t x y ks d ho hd hu => exact ⟨rfl, rfl, fun k A h => by cases h; exact ⟨hd, hu⟩⟩
  | buildSlice t len parts e ety ds ks d ho hd hu => exact ⟨rfl, rfl, fun k A h => by cases h; exact ⟨hd, hu⟩⟩
  | makeSlice t x y m k k' e ety d ho hd hu => exact ⟨rfl, rfl, fun k A h => by cases h; exact ⟨hd, hu⟩⟩
  | call fx args tys f as ks r s al ho hf hx hc hr =>
    refine ⟨rfl, rfl, fun k A h => ?_⟩
    cases hr with
    | d x => cases h
    | own A d h1 h2 => cases h; exact ⟨h1, h2⟩
    | ptr A d h1 h2 => cases h; exact ⟨h1, h2⟩
    | tupd x rest => cases h
    | tupo A rest d h1 h2 => cases h; exact ⟨h1, h2⟩
  | _ => exact ⟨rfl, rfl, fun k A h => by cases h⟩

theorem PEff.refs {op : Op} {ν : Operand → S} {s : S} (h : PEff P T op ν s) : ∀ k, refS s k → ∃ x ∈ op.operands, refS (ν x) k := by
  intro k hk
  cases h with
  | move x => exact ⟨x, by simp [Op.operands], hk⟩
  | assign x => exact ⟨x, by simp [Op.operands], hk⟩
  | pick c a b t h => cases t <;> simp only [if_true, Bool.false_eq_true, if_false] at hk
                      · exact ⟨b, by simp [Op.operands], hk⟩
                      · exact ⟨a, by simp [Op.operands], hk⟩
  | extract x i xs r hx hi =>
    refine ⟨x, by simp [Op.operands], ?_⟩
    rw [hx]
    refine ⟨r, List.mem_of_getElem? hi, ?_⟩
    cases r with
    | d y => exact hk
    | av j m => exact hk
  | _ => exact hk.elim

theorem TEff.refs {o : Oper} {τ : Ab} {e : Ef} (h : TEff P T o τ e) : ∀ k, refS e.s k → (∃ x ∈ o.op.operands, refS (τ.val x) k) ∨ ∃ A, e.al = some (k, A) := by
  intro k hk
  cases h with
  | pure s h => exact .inl (h.refs k hk)
  | alloc t ty d => exact .inr ⟨_, by rw [show k = d from hk]⟩
  | box t x y ks d => exact .inr ⟨_, by rw [show k = d from hk]⟩
  | buildSlice t len parts e ety ds ks d => exact .inr ⟨_, by rw [show k = d from hk]⟩
  | makeSlice t x y m k0 k' e ety d => exact .inr ⟨_, by rw [show k = d from hk]⟩
  | fieldA t x f Fs k0 i A ho hT hl hx hA => exact .inl ⟨x, by rw [ho]; simp [Op.operands], by rw [hx]; exact hk⟩
  | sliceA t x hi e ety k0 m h A ho hT hE hx hA hhi hh => exact .inl ⟨x, by rw [ho]; simp [Op.operands], by rw [hx]; exact hk⟩
  | indexA t x ix e ety k0 m j kd A ho hT hE hx hA hsz hi hj => exact .inl ⟨x, by rw [ho]; simp [Op.operands], by rw [hx]; exact hk⟩
  | nilA x k0 i A ho hx hA => exact .inl ⟨x, by rw [ho]; simp [Op.operands], by rw [hx]; exact hk⟩
  | call fx args tys f as ks r s al ho hf hx hc hr =>
    cases hr with
    | d x => exact hk.elim
    | own A d h1 h2 => exact .inr ⟨_, by rw [show k = d from hk]⟩
    | ptr A d h1 h2 => exact .inr ⟨_, by rw [show k = d from hk]⟩
    | tupd x rest =>
      obtain ⟨t, ht, hr⟩ := hk
      rcases List.mem_cons.1 ht with rfl | ht
      · exact hr.elim
      · obtain ⟨y, _, rfl⟩ := List.mem_map.1 ht; exact hr.elim
    | tupo A rest d h1 h2 =>
      obtain ⟨t, ht, hr⟩ := hk
      rcases List.mem_cons.1 ht with rfl | ht
      · exact .inr ⟨_, by rw [show k = d from hr]⟩
      · obtain ⟨y, _, rfl⟩ := List.mem_map.1 ht; exact hr.elim
  | callFlat fx args tys f as ks r s ho hf hx hc hr =>
    cases hr with
    | d x => exact hk.elim
    | tup v rest =>
      obtain ⟨t, ht, hr⟩ := hk
      rcases List.mem_cons.1 ht with rfl | ht
      · exact hr.elim
      · obtain ⟨y, _, rfl⟩ := List.mem_map.1 ht; exact hr.elim
  | _ => exact hk.elim

theorem WEff.refs {o : Oper} {τ : Ab} {e : Ef} (h : WEff P T R o τ e) : ∀ k, refS e.s k → ∃ A, e.al = some (k, A) := by
  intro k hk
  cases h with
  | storeA => exact hk.elim
  | storeF => exact hk.elim
  | appendA t x y e ety k0 m d => exact ⟨_, by rw [show k = d from hk]⟩
  | appendN t x y e ety d => exact ⟨_, by rw [show k = d from hk]⟩
  | lcall fx args tys f as ks k0 A r xs s al ho hfx hL hx hk0 hA hsh hc hr =>
    cases hr with
    | d x => exact hk.elim
    | own A d h1 h2 => exact ⟨_, by rw [show k = d from hk]⟩
    | ptr A d h1 h2 => exact ⟨_, by rw [show k = d from hk]⟩
    | tupd x rest =>
      obtain ⟨t, ht, hr⟩ := hk
      rcases List.mem_cons.1 ht with rfl | ht
      · exact hr.elim
      · obtain ⟨y, _, rfl⟩ := List.mem_map.1 ht; exact hr.elim
    | tupo A rest d h1 h2 =>
      obtain ⟨t, ht, hr⟩ := hk
      rcases List.mem_cons.1 ht with rfl | ht
      · exact ⟨_, by rw [show k = d from hr]⟩
      · obtain ⟨y, _, rfl⟩ := List.mem_map.1 ht; exact hr.elim

/-! ### The parts of a state behind an effect -/
theorem Ab.ext' {a b : Ab} (h1 : a.s = b.s) (h2 : a.c = b.c) (h3 : a.sh = b.sh) (h4 : a.us = b.us) : a = b := by
  cases a; cases b; simp_all

theorem shares_sh (τ : Ab) (ks : List Nat) (k : Nat) : (τ.shares ks).sh k = (τ.sh k || ks.contains k) := by
  unfold Ab.shares
  induction ks generalizing τ with
  | nil => simp
  | cons j ks ih =>
    rw [List.foldl_cons, ih]
    by_cases h : k = j
    · subst h; simp [Ab.share]
    · simp [Ab.share, h]

theorem put_s (τ : Ab) (dst : Option Nat) (s : S) (t : Nat) : (τ.put dst s).s t = if dst = some t then s else τ.s t := by
  cases dst with
  | none => simp [Ab.put]
  | some d =>
    by_cases h : t = d
    · subst h; simp [Ab.put]
    · simp [Ab.put, h, Ne.symm h]
theorem put_c (τ : Ab) (dst : Option Nat) (s : S) : (τ.put dst s).c = τ.c := by cases dst <;> rfl
theorem put_sh (τ : Ab) (dst : Option Nat) (s : S) : (τ.put dst s).sh = τ.sh := by cases dst <;> rfl
theorem put_us (τ : Ab) (dst : Option Nat) (s : S) : (τ.put dst s).us = τ.us := by cases dst <;> rfl

theorem eff_s (τ : Ab) (dst : Option Nat) (e : Ef) (t : Nat) : (τ.eff dst e).s t = if dst = some t then e.s else τ.s t := by
  unfold Ab.eff
  rw [put_s]
  congr 1
  have h1 : ∀ (a : Ab) (o : Option (Nat × Arr)), (a.alO o).s = a.s := fun a o => by rcases o with _ | ⟨k, A⟩ <;> rfl
  have h2 : ∀ (a : Ab) (o : Option (Nat × Arr)), (a.upO o).s = a.s := fun a o => by rcases o with _ | ⟨k, A⟩ <;> rfl
  have h3 : ∀ (a : Ab) (o : Option Nat), (a.kiO o).s = a.s := fun a o => by rcases o with _ | k <;> rfl
  rw [h1, h2, h3, (shares_c τ e.sh).2.2]

theorem eff_us (τ : Ab) (dst : Option Nat) (e : Ef) (k : Nat) : (τ.eff dst e).us k = match e.al with | some (j, _) => (if k = j then true else τ.us k) | none => τ.us k := by
  unfold Ab.eff
  rw [put_us]
  have h2 : ∀ (a : Ab) (o : Option (Nat × Arr)), (a.upO o).us = a.us := fun a o => by rcases o with _ | ⟨k, A⟩ <;> rfl
  have h3 : ∀ (a : Ab) (o : Option Nat), (a.kiO o).us = a.us := fun a o => by rcases o with _ | k <;> rfl
  rcases h : e.al with _ | ⟨j, A⟩
  · simp only [Ab.alO]
    rw [h2, h3, (shares_c τ e.sh).2.1]
  · simp only [Ab.alO, Ab.al]
    rw [h2, h3, (shares_c τ e.sh).2.1]

theorem eff_sh' (τ : Ab) (dst : Option Nat) (e : Ef) (k : Nat) : (τ.eff dst e).sh k = (τ.sh k || e.sh.contains k) := by
  unfold Ab.eff
  rw [put_sh]
  have h1 : ∀ (a : Ab) (o : Option (Nat × Arr)), (a.alO o).sh = a.sh := fun a o => by rcases o with _ | ⟨k, A⟩ <;> rfl
  have h2 : ∀ (a : Ab) (o : Option (Nat × Arr)), (a.upO o).sh = a.sh := fun a o => by rcases o with _ | ⟨k, A⟩ <;> rfl
  have h3 : ∀ (a : Ab) (o : Option Nat), (a.kiO o).sh = a.sh := fun a o => by rcases o with _ | k <;> rfl
  rw [h1, h2, h3, shares_sh]

theorem eff_c (τ : Ab) (dst : Option Nat) (e : Ef) (hk : e.ki = none) (hu : e.up = none) (k : Nat) : (τ.eff dst e).c k = match e.al with | some (j, A) => (if k = j then some A else τ.c k) | none => τ.c k := by
  unfold Ab.eff
  rw [put_c, hk, hu]
  rcases h : e.al with _ | ⟨j, A⟩
  · simp only [Ab.alO, Ab.kiO, Ab.upO]
    rw [(shares_c τ e.sh).1]
  · simp only [Ab.alO, Ab.kiO, Ab.upO, Ab.al]
    rw [(shares_c τ e.sh).1]

theorem eff_put (τ : Ab) (di dj : Option Nat) (s : S) (e : Ef) (h : ∀ d, di = some d → dj ≠ some d) : (τ.put di s).eff dj e = (τ.eff dj e).put di s := by
  cases di with
  | none => rfl
  | some d =>
    have hne : dj ≠ some d := h d rfl
    refine Ab.ext' (funext fun t => ?_) (funext fun k => ?_) (funext fun k => ?_) (funext fun k => ?_)
    · rw [eff_s, put_s, put_s, eff_s]
      by_cases ht : d = t
      · subst ht
        simp [hne]
      · simp [ht]
    · rw [put_c]
      have hsh : ∀ ks, ((τ.put (some d) s).shares ks) = (τ.shares ks).put (some d) s := fun ks => by
        unfold Ab.shares
        induction ks generalizing τ with
        | nil => rfl
        | cons j ks ih => exact ih (τ.share j)
      unfold Ab.eff
      rw [put_c, put_c, hsh]
      rcases e.ki with _ | _ <;> rcases e.up with _ | ⟨_, _⟩ <;> rcases e.al with _ | ⟨_, _⟩ <;> rfl
    · rw [eff_sh', put_sh, put_sh, eff_sh']
    · rw [eff_us, put_us, put_us, eff_us]

/-! ### A step of a region -/
def Wanted (ops : Array Oper) (τ : Ab) (o : Oper) : Prop :=
  o.guard = none ∨ ∃ j want t, o.guard = some (j, want) ∧ (ops[j]?).bind (·.dst) = some t ∧ τ.s t = .d (.sc (.bool want))

inductive GEff (P : Program) (T : Tys) (R : List Nat) (ops : Array Oper) (o : Oper) (τ : Ab) : Ef → Prop
  | skip (j t : Nat) (want : Bool) (hg : o.guard = some (j, want)) (ht : (ops[j]?).bind (·.dst) = some t) (hs : τ.s t = .un ∨ τ.s t = .d (.sc (.bool (!want)))) : GEff P T R ops o τ { s := .un }
  | tame (e : Ef) (hg : Wanted ops τ o) (h : TEff P T o τ e) : GEff P T R ops o τ e
  | wild (e : Ef) (hg : Wanted ops τ o) (h : WEff P T R o τ e) : GEff P T R ops o τ e

variable {ops : Array Oper}

theorem mem_looks {o : Oper} {t : Nat} (h : Operand.tmp t ∈ o.op.operands) : t ∈ o.looksAt ops :=
  List.mem_append_left _ (List.mem_filterMap.2 ⟨.tmp t, Array.mem_def.1 h, rfl⟩)
theorem guard_looks {o : Oper} {j t : Nat} {want : Bool} (hg : o.guard = some (j, want)) (ht : (ops[j]?).bind (·.dst) = some t) : t ∈ o.looksAt ops := by
  simp [Oper.looksAt, hg, ht]

theorem val_same {o : Oper} {τ τ' : Ab} {dst : Option Nat} (hs : ∀ t, dst ≠ some t → τ'.s t = τ.s t) (h : ∀ d, dst = some d → d ∉ o.looksAt ops) : ∀ x ∈ o.op.operands, τ'.val x = τ.val x := by
  intro x hx
  cases x with
  | tmp t => exact hs t (fun e => h t e (mem_looks hx))
  | _ => rfl

theorem Wanted.same {o : Oper} {τ τ' : Ab} {dst : Option Nat} (hs : ∀ t, dst ≠ some t → τ'.s t = τ.s t) (h : ∀ d, dst = some d → d ∉ o.looksAt ops) (hw : Wanted ops τ o) : Wanted ops τ' o := by
  rcases hw with hw | ⟨j, want, t, h1, h2, h3⟩
  · exact .inl hw
  · exact .inr ⟨j, want, t, h1, h2, by rw [hs t (fun e => h t e (guard_looks h1 h2))]; exact h3⟩

theorem constS_ref (v : Value) (k : Nat) : ¬ refS (constS v) k := by
  unfold constS
  split <;> exact fun h => h

theorem val_ref {τ : Ab} (hwf : WF τ) {x : Operand} {k : Nat} (h : refS (τ.val x) k) : τ.us k = true := by
  cases x with
  | tmp t => exact hwf t k h
  | const v => exact (constS_ref v k h).elim
  | global g => exact h.elim
  | func f => exact h.elim

theorem eff_wf {o : Oper} {τ : Ab} {e : Ef} (hwf : WF τ) (h : GEff P T R ops o τ e) : WF (τ.eff o.dst e) := by
  have key : ∀ k, refS e.s k → (τ.eff o.dst e).us k = true := by
    intro k hk
    have hold : τ.us k = true → (τ.eff o.dst e).us k = true := fun hu => by
      rw [eff_us]; split <;> simp_all
    have hnew : (∃ A, e.al = some (k, A)) → (τ.eff o.dst e).us k = true := fun ⟨A, hA⟩ => by rw [eff_us, hA]; simp
    cases h with
    | skip => exact hk.elim
    | tame e hg h =>
      rcases h.refs k hk with ⟨x, _, hx⟩ | hA
      · exact hold (val_ref hwf hx)
      · exact hnew hA
    | wild e hg h => exact hnew (h.refs k hk)
  intro t k hk
  rw [eff_s] at hk
  split at hk
  · exact key k hk
  · rw [eff_us]
    have := hwf t k hk
    split <;> simp_all

theorem plain_back {oj : Oper} {τ : Ab} {di : Option Nat} {s : S} {ej : Ef} (h1 : ∀ d, di = some d → d ∉ oj.looksAt ops) (hj : GEff P T R ops oj (τ.put di s) ej) : GEff P T R ops oj τ ej := by
  have hs : ∀ t, di ≠ some t → τ.s t = (τ.put di s).s t := fun t ht => by rw [put_s, if_neg ht]
  cases hj with
  | skip j t want hg ht hst => exact .skip j t want hg ht (by rw [hs t (fun e => h1 t e (guard_looks hg ht))]; exact hst)
  | tame e hg h => exact .tame _ (hg.same hs h1) (h.locl ⟨val_same hs h1, fun x _ k _ => by rw [put_c], fun d _ hu => by rw [put_us] at hu; exact hu⟩)
  | wild e hg h => exact .wild _ (hg.same hs h1) (h.locl (val_same hs h1) (by rw [put_c]) (by rw [put_sh]) (by rw [put_us]))

theorem plain_on {oi : Oper} {τ : Ab} {dj : Option Nat} {ej : Ef} {s : S} (h3 : ∀ d, dj = some d → d ∉ oi.looksAt ops) (hi : GEff P T R ops oi τ { s }) (hp : cls R oi.op = 0 ∨ ∃ j want t, oi.guard = some (j, want) ∧ (ops[j]?).bind (·.dst) = some t ∧ (τ.s t = .un ∨ τ.s t = .d (.sc (.bool (!want)))) ∧ s = .un) :
    GEff P T R ops oi (τ.eff dj ej) { s } := by
  have hs : ∀ t, dj ≠ some t → (τ.eff dj ej).s t = τ.s t := fun t ht => by rw [eff_s, if_neg ht]
  rcases hp with hc | ⟨j, want, t, hg, ht, hst, rfl⟩
  · cases hi with
    | skip j t want hg ht hst => exact .skip j t want hg ht (by rw [hs t (fun e => h3 t e (guard_looks hg ht))]; exact hst)
    | tame e hg h =>
      obtain ⟨s', he, hp⟩ := h.plain hc
      have e2 : s' = s := by injection he with h; exact h.symm
      subst e2
      exact .tame _ (hg.same hs h3) (.pure _ (hp.locl (val_same hs h3)))
    | wild e hg h => rw [h.cls2] at hc; cases hc
  · exact .skip j t want hg ht (by rw [hs t (fun e => h3 t e (guard_looks hg ht))]; exact hst)

theorem commute {oi oj : Oper} {τ : Ab} {ei ej : Ef} (hap : oi.apart ops oj = true) (hcp : compat R oi.op oj.op = true) (hwf : WF τ) (hi : GEff P T R ops oi τ ei) (hj : GEff P T R ops oj (τ.eff oi.dst ei) ej) :
    GEff P T R ops oj τ ej ∧ GEff P T R ops oi (τ.eff oj.dst ej) ei ∧ (τ.eff oi.dst ei).eff oj.dst ej = (τ.eff oj.dst ej).eff oi.dst ei := by
  obtain ⟨h1, h2, h3⟩ := Oper.apart_spec hap
  have h2' : ∀ d, oj.dst = some d → oi.dst ≠ some d := fun d hd he => h2 d he hd
  have plainI : ∀ s, ei = { s } → (cls R oi.op = 0 ∨ ∃ j want t, oi.guard = some (j, want) ∧ (ops[j]?).bind (·.dst) = some t ∧ (τ.s t = .un ∨ τ.s t = .d (.sc (.bool (!want)))) ∧ s = .un) →
      GEff P T R ops oj τ ej ∧ GEff P T R ops oi (τ.eff oj.dst ej) ei ∧ (τ.eff oi.dst ei).eff oj.dst ej = (τ.eff oj.dst ej).eff oi.dst ei := by
    rintro s rfl hp
    exact ⟨plain_back h1 hj, plain_on h3 hi hp, eff_put τ oi.dst oj.dst s ej h2⟩
  cases hi with
  | skip j t want hg ht hst => exact plainI .un rfl (.inr ⟨j, want, t, hg, ht, hst, rfl⟩)
  | tame _ hg hti =>
    have hsi : ∀ t, oi.dst ≠ some t → τ.s t = (τ.eff oi.dst ei).s t := fun t ht => by rw [eff_s, if_neg ht]
    cases hj with
    | skip j t want hgj ht hst =>
      refine ⟨.skip j t want hgj ht (by rw [hsi t (fun e => h1 t e (guard_looks hgj ht))]; exact hst), ?_, ?_⟩
      · have hs : ∀ t, oj.dst ≠ some t → (τ.eff oj.dst { s := .un }).s t = τ.s t := fun t ht => by rw [eff_s, if_neg ht]
        exact .tame _ (hg.same hs h3) (hti.locl ⟨val_same hs h3, fun x _ k _ => by rw [eff_c _ _ _ rfl rfl], fun d _ hu => by rw [eff_us]; exact hu⟩)
      · exact (eff_put τ oj.dst oi.dst .un ei h2').symm
    | tame _ hgj htj =>
      obtain ⟨ki, ui, ali⟩ := hti.shape
      obtain ⟨kj, uj, alj⟩ := htj.shape
      have back : TEff P T oj τ ej := htj.locl ⟨val_same hsi h1, fun x hx k hk => by
          have hk' : τ.us k = true := val_ref hwf (by rw [val_same hsi h1 x hx]; exact hk)
          rw [eff_c _ _ _ ki ui]
          rcases hal : ei.al with _ | ⟨d, A⟩
          · rfl
          · have := (ali d A hal).2
            have hne : k ≠ d := fun e => by rw [e, this] at hk'; cases hk'
            simp [hne], fun d hd hu => by
          rw [eff_us] at hu
          rcases hal : ei.al with _ | ⟨d', A⟩ <;> rw [hal] at hu
          · exact hu
          · simp only at hu
            split at hu
            · cases hu
            · exact hu⟩
      have hs : ∀ t, oj.dst ≠ some t → (τ.eff oj.dst ej).s t = τ.s t := fun t ht => by rw [eff_s, if_neg ht]
      have alj' := back.shape.2.2
      have on : TEff P T oi (τ.eff oj.dst ej) ei := hti.locl ⟨val_same hs h3, fun x hx k hk => by
          have hk' : τ.us k = true := val_ref hwf hk
          rw [eff_c _ _ _ kj uj]
          rcases hal : ej.al with _ | ⟨d, A⟩
          · rfl
          · have := (alj' d A hal).2
            have hne : k ≠ d := fun e => by rw [e, this] at hk'; cases hk'
            simp [hne], fun d hd hu => by
          rw [eff_us]
          rcases hal : ej.al with _ | ⟨d', A⟩
          · exact hu
          · have hd' := (alj' d' A hal).1
            have hne : d ≠ d' := fun e => h2 d hd (by rw [e]; exact hd')
            simp [hne, hu]⟩
      refine ⟨.tame _ (hgj.same hsi h1) back, .tame _ (hg.same hs h3) on, Ab.ext' (funext fun t => ?_) (funext fun k => ?_) (funext fun k => ?_) (funext fun k => ?_)⟩
      · rw [eff_s, eff_s, eff_s, eff_s]
        by_cases c1 : oi.dst = some t
        · have := h2 t c1
          simp [c1, this]
        · simp [c1]
      · rw [eff_c _ _ _ kj uj, eff_c _ _ _ ki ui, eff_c _ _ _ ki ui, eff_c _ _ _ kj uj]
        rcases hal : ei.al with _ | ⟨d, A⟩ <;> rcases hbl : ej.al with _ | ⟨d', B⟩ <;> simp only
        have hd := (ali d A hal).1
        have hd' := (alj' d' B hbl).1
        have hne : d ≠ d' := fun e => h2 d hd (by rw [e]; exact hd')
        by_cases c1 : k = d
        · subst c1; simp [hne]
        · simp [c1]
      · rw [eff_sh', eff_sh', eff_sh', eff_sh', Bool.or_assoc, Bool.or_assoc, Bool.or_comm (ei.sh.contains k)]
      · rw [eff_us, eff_us, eff_us, eff_us]
        rcases hal : ei.al with _ | ⟨d, A⟩ <;> rcases hbl : ej.al with _ | ⟨d', B⟩ <;> simp only
        by_cases c1 : k = d <;> by_cases c2 : k = d' <;> simp [c1, c2]
    | wild _ hgj hwj =>
      have hc : cls R oi.op = 0 := by
        have := hwj.cls2
        simp only [compat, this, Bool.or_eq_true, Bool.and_eq_true, beq_iff_eq] at hcp
        omega
      obtain ⟨s, he, _⟩ := hti.plain hc
      exact plainI s he (.inl hc)
  | wild _ hg hwi =>
    have hc : cls R oj.op = 0 := by
      have := hwi.cls2
      simp only [compat, this, Bool.or_eq_true, Bool.and_eq_true, beq_iff_eq] at hcp
      omega
    have hsi : ∀ t, oi.dst ≠ some t → τ.s t = (τ.eff oi.dst ei).s t := fun t ht => by rw [eff_s, if_neg ht]
    have done : ∀ s, ej = { s } → GEff P T R ops oj τ ej → GEff P T R ops oj τ ej ∧ GEff P T R ops oi (τ.eff oj.dst ej) ei ∧ (τ.eff oi.dst ei).eff oj.dst ej = (τ.eff oj.dst ej).eff oi.dst ei := by
      rintro s rfl hb
      refine ⟨hb, ?_, (eff_put τ oj.dst oi.dst s ei h2').symm⟩
      have hs : ∀ t, oj.dst ≠ some t → (τ.put oj.dst s).s t = τ.s t := fun t ht => by rw [put_s, if_neg ht]
      exact .wild _ (hg.same hs h3) (hwi.locl (val_same hs h3) (put_c _ _ _) (put_sh _ _ _) (put_us _ _ _))
    cases hj with
    | skip j t want hgj ht hst => exact done .un rfl (.skip j t want hgj ht (by rw [hsi t (fun e => h1 t e (guard_looks hgj ht))]; exact hst))
    | tame _ hgj htj =>
      obtain ⟨s, he, hp⟩ := htj.plain hc
      subst he
      exact done s rfl (.tame _ (hgj.same hsi h1) (.pure _ (hp.locl (val_same hsi h1))))
    | wild _ hgj hwj => rw [hwj.cls2] at hc; cases hc
/-! ### Operations that touch different arrays change places -/
def Refs (o : Oper) (τ : Ab) (k : Nat) : Prop := ∃ x ∈ o.op.operands, refS (τ.val x) k
theorem ToD.keys {τ : Ab} {s : S} {x : D} {ks : List Nat} (h : ToD τ s x ks) : ∀ k ∈ ks, refS s k := by
  cases h with
  | d => simp
  | nil => simp
  | av k m A hA => intro j hj; simp at hj; subst hj; rfl
theorem ToDs.keys {τ : Ab} {ss : List S} {xs : List D} {ks : List Nat} (h : ToDs τ ss xs ks) : ∀ k ∈ ks, ∃ s ∈ ss, refS s k := by
  induction h with
  | nil => simp
  | cons h t ih =>
    intro k hk
    rcases List.mem_append.1 hk with h1 | h1
    · exact ⟨_, List.mem_cons_self, h.keys k h1⟩
    · obtain ⟨s, hs, h2⟩ := ih k h1; exact ⟨s, List.mem_cons_of_mem _ hs, h2⟩
theorem ToA.keys {τ : Ab} {s : S} {x : A1} {ks : List Nat} (h : ToA τ s x ks) : ∀ k ∈ ks, refS s k := by
  cases h with
  | d h => exact h.keys
  | fn f => simp
theorem ToAs.keys {τ : Ab} {ss : List S} {xs : List A1} {ks : List Nat} (h : ToAs τ ss xs ks) : ∀ k ∈ ks, ∃ s ∈ ss, refS s k := by
  induction h with
  | nil => simp
  | cons h t ih =>
    intro k hk
    rcases List.mem_append.1 hk with h1 | h1
    · exact ⟨_, List.mem_cons_self, h.keys k h1⟩
    · obtain ⟨s, hs, h2⟩ := ih k h1; exact ⟨s, List.mem_cons_of_mem _ hs, h2⟩
theorem TEff.shk {o : Oper} {τ : Ab} {e : Ef} (h : TEff P T o τ e) : ∀ k ∈ e.sh, Refs o τ k := by
  cases h with
  | box t x y ks d ho hd hu hx hw => exact fun k hk => ⟨x, by rw [ho]; simp [Op.operands], hx.keys k hk⟩
  | build t parts Fs ds ks ho hT hx hc hi =>
    intro k hk
    obtain ⟨s, hs, h1⟩ := hx.keys k hk
    obtain ⟨p, hp, rfl⟩ := List.mem_map.1 hs
    exact ⟨p.2, by rw [ho]; simp [Op.operands]; exact ⟨p.1, Array.mem_def.2 hp⟩, h1⟩
  | buildSlice t len parts e ety ds ks d ho hd hu hT hE hx hc hi hw hl =>
    intro k hk
    obtain ⟨s, hs, h1⟩ := hx.keys k hk
    obtain ⟨p, hp, rfl⟩ := List.mem_map.1 hs
    exact ⟨p.2, by rw [ho]; simp [Op.operands]; exact ⟨p.1, Array.mem_def.2 hp⟩, h1⟩
  | call fx args tys f as ks r s al ho hf hx hc hr =>
    intro k hk
    obtain ⟨s, hs, h1⟩ := hx.keys k hk
    obtain ⟨p, hp, rfl⟩ := List.mem_map.1 hs
    exact ⟨p, by rw [ho]; simp [Op.operands, Call.operands]; exact .inr (Array.mem_def.2 hp), h1⟩
  | _ => intro k hk; simp at hk
theorem ToLs.keys {τ : Ab} {k : Nat} {A : Option Arr} {ss : List S} {xs : List A2} {ks : List Nat} (h : ToLs τ k A ss xs ks) : ∀ j ∈ ks, ∃ s ∈ ss, refS s j := by
  induction h with
  | nil => simp
  | cons h t ih =>
    intro j hj
    rcases List.mem_append.1 hj with h1 | h1
    · cases h with
      | d h => exact ⟨_, List.mem_cons_self, h.keys j h1⟩
      | fn f => simp at h1
      | lv m A0 hA h => simp at h1
      | lp A0 hA => simp at h1
    · obtain ⟨s, hs, h2⟩ := ih j h1; exact ⟨s, List.mem_cons_of_mem _ hs, h2⟩
theorem ResE.fresh {τ : Ab} {dst : Option Nat} {r : Res} {s : S} {al : Option (Nat × Arr)} (h : ResE τ dst r s al) : ∀ k A, al = some (k, A) → dst = some k ∧ τ.us k = false := by
  intro k B e
  cases h with
  | d x => cases e
  | own A d h1 h2 => cases e; exact ⟨h1, h2⟩
  | ptr A d h1 h2 => cases e; exact ⟨h1, h2⟩
  | tupd x rest => cases e
  | tupo A rest d h1 h2 => cases e; exact ⟨h1, h2⟩
theorem lent_ref {o : Oper} {τ : Ab} {fx : Operand} {args : Array Operand} {tys : Array TypeId} {k m : Nat} (ho : o.op = .call { callee := .value fx, args, argTypes := tys }) (hk : ∃ p ∈ args.toList, τ.val p = .av k m ∨ τ.val p = .ae k 0) : Refs o τ k := by
  obtain ⟨p, hp, h⟩ := hk
  refine ⟨p, args_mem ho p hp, ?_⟩
  rcases h with h | h <;> rw [h] <;> rfl
theorem WEff.touch {o : Oper} {τ : Ab} {e : Ef} (h : WEff P T R o τ e) : (∀ k, e.ki = some k → Refs o τ k) ∧ (∀ k A, e.up = some (k, A) → Refs o τ k) ∧ (∀ k ∈ e.sh, Refs o τ k) ∧ ∀ k A, e.al = some (k, A) → o.dst = some k ∧ τ.us k = false := by
  cases h with
  | storeA t x y k i A z ks ty ho hT hx hA hy hsh hi hz hw =>
    refine ⟨fun k h => (by cases h), fun j B h => ?_, fun j hj => ⟨y, by rw [ho]; simp [Op.operands], hy.keys j hj⟩, fun k A h => (by cases h)⟩
    cases h
    exact ⟨x, by rw [ho]; simp [Op.operands], by rw [hx]; rfl⟩
  | storeF t x y k i f A fs z ks ty ho hT hx hA hy hsh hi hf hz hw =>
    refine ⟨fun k h => (by cases h), fun j B h => ?_, fun j hj => ⟨y, by rw [ho]; simp [Op.operands], hy.keys j hj⟩, fun k A h => (by cases h)⟩
    cases h
    exact ⟨x, by rw [ho]; simp [Op.operands], by rw [hx]; rfl⟩
  | appendA t x y e ety k m d A ys ho hd hus hds hT hE hx hA hsh he hsz hy hw hl =>
    refine ⟨fun j h => ?_, fun j B h => (by cases h), fun j hj => (by simp at hj), fun j B h => ?_⟩
    · cases h; exact ⟨x, by rw [ho]; simp [Op.operands, Call.operands], by rw [hx]; rfl⟩
    · cases h; exact ⟨hd, hus⟩
  | appendN t x y e ety d ys ho hd hus hT hE hp hx hy hw hl =>
    refine ⟨fun j h => (by cases h), fun j B h => (by cases h), fun j hj => (by simp at hj), fun j B h => ?_⟩
    cases h; exact ⟨hd, hus⟩
  | lcall fx args tys f as ks k A r xs s al ho hfx hL hx hk hA hsh hc hr =>
    refine ⟨fun j h => (by cases h), fun j B h => ?_, fun j hj => ?_, hr.fresh⟩
    · cases h; exact lent_ref ho hk
    · obtain ⟨s0, hs0, h1⟩ := hx.keys j hj
      obtain ⟨p, hp, rfl⟩ := List.mem_map.1 hs0
      exact ⟨p, args_mem ho p hp, h1⟩
theorem GEff.touch {o : Oper} {τ : Ab} {e : Ef} (h : GEff P T R ops o τ e) : (∀ k, e.ki = some k → Refs o τ k) ∧ (∀ k A, e.up = some (k, A) → Refs o τ k) ∧ (∀ k ∈ e.sh, Refs o τ k) ∧ ∀ k A, e.al = some (k, A) → o.dst = some k ∧ τ.us k = false := by
  cases h with
  | skip => exact ⟨fun k h => (by cases h), fun k A h => (by cases h), fun k h => (by simp at h), fun k A h => (by cases h)⟩
  | tame _ _ h =>
    obtain ⟨h1, h2, h3⟩ := h.shape
    exact ⟨fun k h => (by rw [h1] at h; cases h), fun k A h => (by rw [h2] at h; cases h), h.shk, h3⟩
  | wild _ _ h => exact h.touch
theorem WEff.locl2 {o : Oper} {τ τ' : Ab} {e : Ef} (h : WEff P T R o τ e) (hv : ∀ x ∈ o.op.operands, τ'.val x = τ.val x) (hc : ∀ k, Refs o τ k → τ'.c k = τ.c k ∧ τ'.sh k = τ.sh k)
    (hu : ∀ d, o.dst = some d → τ.us d = false → τ'.us d = false ∧ (τ.sh d = false → τ'.sh d = false)) : WEff P T R o τ' e := by
  cases h with
  | storeA t x y k i A z ks ty ho hT hx hA hy hsh hi hz hw =>
    have hmx : x ∈ o.op.operands := by rw [ho]; simp [Op.operands]
    have hmy : y ∈ o.op.operands := by rw [ho]; simp [Op.operands]
    have hk := hc k ⟨x, hmx, by rw [hx]; rfl⟩
    refine .storeA t x y k i A z ks ty ho hT (by rw [hv x hmx]; exact hx) (by rw [hk.1]; exact hA) (by rw [hv y hmy]; exact hy.locl fun j hj => (hc j ⟨y, hmy, hj⟩).1) ?_ hi hz hw
    rw [shares_sh] at hsh ⊢; rw [hk.2]; exact hsh
  | storeF t x y k i f A fs z ks ty ho hT hx hA hy hsh hi hf hz hw =>
    have hmx : x ∈ o.op.operands := by rw [ho]; simp [Op.operands]
    have hmy : y ∈ o.op.operands := by rw [ho]; simp [Op.operands]
    have hk := hc k ⟨x, hmx, by rw [hx]; rfl⟩
    refine .storeF t x y k i f A fs z ks ty ho hT (by rw [hv x hmx]; exact hx) (by rw [hk.1]; exact hA) (by rw [hv y hmy]; exact hy.locl fun j hj => (hc j ⟨y, hmy, hj⟩).1) ?_ hi hf hz hw
    rw [shares_sh] at hsh ⊢; rw [hk.2]; exact hsh
  | appendA t x y e ety k m d A ys ho hd hus hds hT hE hx hA hsh he hsz hy hw hl =>
    have hmx : x ∈ o.op.operands := by rw [ho]; simp [Op.operands, Call.operands]
    have hmy : y ∈ o.op.operands := by rw [ho]; simp [Op.operands, Call.operands]
    have hk := hc k ⟨x, hmx, by rw [hx]; rfl⟩
    refine .appendA t x y e ety k m d A ys ho hd (hu d hd hus).1 ((hu d hd hus).2 hds) hT hE (by rw [hv x hmx]; exact hx) (by rw [hk.1]; exact hA) (by rw [hk.2]; exact hsh) he hsz ?_ hw hl
    rw [hv y hmy]
    exact hy.locl fun j hj => (hc j ⟨y, hmy, hj⟩).1
  | appendN t x y e ety d ys ho hd hus hT hE hp hx hy hw hl =>
    have hmx : x ∈ o.op.operands := by rw [ho]; simp [Op.operands, Call.operands]
    have hmy : y ∈ o.op.operands := by rw [ho]; simp [Op.operands, Call.operands]
    refine .appendN t x y e ety d ys ho hd (hu d hd hus).1 hT hE hp (by rw [hv x hmx]; exact hx) ?_ hw hl
    rw [hv y hmy]
    exact hy.locl fun j hj => (hc j ⟨y, hmy, hj⟩).1
  | lcall fx args tys f as ks k A r xs s al ho hfx hL hx hk hA hsh hct hr =>
    have hm := args_mem ho
    have e : args.toList.map τ'.val = args.toList.map τ.val := List.map_congr_left fun p hp => hv p (hm p hp)
    have hck := hc k (lent_ref ho hk)
    refine .lcall fx args tys f as ks k A r xs s al ho hfx hL ?_ ?_ (by rw [hck.1]; exact hA) ?_ hct (hr.usd fun d hd h => (hu d hd h).1)
    · rw [e]
      exact hx.locl fun s hs j hj => by obtain ⟨p, hp, rfl⟩ := List.mem_map.1 hs; exact (hc j ⟨p, hm p hp, hj⟩).1
    · obtain ⟨p, hp, h1⟩ := hk
      exact ⟨p, hp, by rw [hv p (hm p hp)]; exact h1⟩
    · rw [shares_sh] at hsh ⊢; rw [hck.2]; exact hsh
theorem GEff.move {o : Oper} {τ τ' : Ab} {dst : Option Nat} {e : Ef} (h : GEff P T R ops o τ e) (hs : ∀ t, dst ≠ some t → τ'.s t = τ.s t) (hl : ∀ d, dst = some d → d ∉ o.looksAt ops)
    (hc : ∀ k, Refs o τ k → τ'.c k = τ.c k ∧ τ'.sh k = τ.sh k) (hu : ∀ d, o.dst = some d → τ.us d = false → τ'.us d = false ∧ (τ.sh d = false → τ'.sh d = false)) : GEff P T R ops o τ' e := by
  cases h with
  | skip j t want hg ht hst => exact .skip j t want hg ht (by rw [hs t (fun e => hl t e (guard_looks hg ht))]; exact hst)
  | tame e hg h => exact .tame _ (hg.same hs hl) (h.locl ⟨val_same hs hl, fun x hx k hk => (hc k ⟨x, hx, hk⟩).1, fun d hd hud => (hu d hd hud).1⟩)
  | wild e hg h => exact .wild _ (hg.same hs hl) (h.locl2 (val_same hs hl) hc hu)

def Touch (e : Ef) (k : Nat) : Prop := e.ki = some k ∨ (∃ A, e.up = some (k, A)) ∨ ∃ A, e.al = some (k, A)
theorem eff_cg (τ : Ab) (dst : Option Nat) (e : Ef) (k : Nat) : (τ.eff dst e).c k = (match e.al with
    | some (j, A) => if k = j then some A else (match e.up with
      | some (i, B) => if k = i then some B else (match e.ki with | some h => if k = h then none else τ.c k | none => τ.c k)
      | none => (match e.ki with | some h => if k = h then none else τ.c k | none => τ.c k))
    | none => (match e.up with
      | some (i, B) => if k = i then some B else (match e.ki with | some h => if k = h then none else τ.c k | none => τ.c k)
      | none => (match e.ki with | some h => if k = h then none else τ.c k | none => τ.c k))) := by
  unfold Ab.eff
  rw [put_c]
  rcases e.al with _ | ⟨j, A⟩ <;> rcases e.up with _ | ⟨i, B⟩ <;> rcases e.ki with _ | h <;> simp only [Ab.alO, Ab.upO, Ab.kiO, Ab.al, Ab.up, Ab.kill, (shares_c τ e.sh).1]
theorem eff_c_un {τ : Ab} {dst : Option Nat} {e : Ef} {k : Nat} (h : ¬ Touch e k) : (τ.eff dst e).c k = τ.c k := by
  rw [eff_cg]
  unfold Touch at h
  rcases h1 : e.al with _ | ⟨j, A⟩ <;> rcases h2 : e.up with _ | ⟨i, B⟩ <;> rcases h3 : e.ki with _ | g <;> simp only [h1, h2, h3] at h ⊢ <;> (repeat' split) <;> simp_all
theorem eff_c_touch {τ τ' : Ab} {d d' : Option Nat} {e : Ef} {k : Nat} (h : Touch e k) : (τ.eff d e).c k = (τ'.eff d' e).c k := by
  rw [eff_cg, eff_cg]
  unfold Touch at h
  rcases h1 : e.al with _ | ⟨j, A⟩ <;> rcases h2 : e.up with _ | ⟨i, B⟩ <;> rcases h3 : e.ki with _ | g <;> simp only [h1, h2, h3] at h ⊢ <;> (repeat' split) <;> simp_all
  all_goals (exfalso; omega)

theorem commuteK {oi oj : Oper} {τ : Ab} {ei ej : Ef} (hap : oi.apart ops oj = true) (hdis : ∀ k, Refs oi τ k → ¬ Refs oj τ k) (hwf : WF τ) (hi : GEff P T R ops oi τ ei) (hj : GEff P T R ops oj (τ.eff oi.dst ei) ej) :
    GEff P T R ops oj τ ej ∧ GEff P T R ops oi (τ.eff oj.dst ej) ei ∧ (τ.eff oi.dst ei).eff oj.dst ej = (τ.eff oj.dst ej).eff oi.dst ei := by
  obtain ⟨h1, h2, h3⟩ := Oper.apart_spec hap
  have hsi : ∀ t, oi.dst ≠ some t → τ.s t = (τ.eff oi.dst ei).s t := fun t ht => by rw [eff_s, if_neg ht]
  have hsj : ∀ t, oj.dst ≠ some t → (τ.eff oj.dst ej).s t = τ.s t := fun t ht => by rw [eff_s, if_neg ht]
  obtain ⟨i1, i2, i3, i4⟩ := hi.touch
  have used : ∀ {o : Oper} {k : Nat}, Refs o τ k → τ.us k = true := fun ⟨x, _, hx⟩ => val_ref hwf hx
  -- the operands of oj hold the same before
  have hrj : ∀ k, Refs oj (τ.eff oi.dst ei) k ↔ Refs oj τ k := fun k => by
    have hv := val_same (o := oj) hsi h1
    constructor
    · rintro ⟨x, hx, hk⟩; exact ⟨x, hx, by rw [hv x hx]; exact hk⟩
    · rintro ⟨x, hx, hk⟩; exact ⟨x, hx, by rw [← hv x hx]; exact hk⟩
  have nti : ∀ k, Refs oj τ k → ¬ Touch ei k := fun k hk ht => by
    rcases ht with h | ⟨A, h⟩ | ⟨A, h⟩
    · exact hdis k (i1 k h) hk
    · exact hdis k (i2 k A h) hk
    · have := (i4 k A h).2; rw [used hk] at this; cases this
  have shi : ∀ k, Refs oj τ k → ei.sh.contains k = false := fun k hk => by
    cases hb : ei.sh.contains k with
    | false => rfl
    | true => exact absurd hk (hdis k (i3 k (by simpa using hb)))
  have back : GEff P T R ops oj τ ej := hj.move hsi h1 (fun k hk => by
      have hk' := (hrj k).1 hk
      exact ⟨(eff_c_un (nti k hk')).symm, by rw [eff_sh', shi k hk', Bool.or_false]⟩) (fun d hd hud => ⟨by
      rw [eff_us] at hud
      rcases hal : ei.al with _ | ⟨d', A⟩ <;> rw [hal] at hud
      · exact hud
      · simp only at hud
        split at hud
        · cases hud
        · exact hud, fun hu => by
      rw [eff_sh'] at hu
      cases hh : τ.sh d with
      | false => rfl
      | true => rw [hh] at hu; cases hu⟩)
  obtain ⟨j1, j2, j3, j4⟩ := back.touch
  have ntj : ∀ k, Refs oi τ k → ¬ Touch ej k := fun k hk ht => by
    rcases ht with h | ⟨A, h⟩ | ⟨A, h⟩
    · exact hdis k hk (j1 k h)
    · exact hdis k hk (j2 k A h)
    · have := (j4 k A h).2; rw [used hk] at this; cases this
  have shj : ∀ k, Refs oi τ k → ej.sh.contains k = false := fun k hk => by
    cases hb : ej.sh.contains k with
    | false => rfl
    | true => exact absurd (j3 k (by simpa using hb)) (hdis k hk)
  have on : GEff P T R ops oi (τ.eff oj.dst ej) ei := hi.move hsj h3 (fun k hk => ⟨eff_c_un (ntj k hk), by rw [eff_sh', shj k hk, Bool.or_false]⟩) (fun d hd hud => ⟨by
      rw [eff_us]
      rcases hal : ej.al with _ | ⟨d', A⟩
      · exact hud
      · simp only
        split
        · rename_i e
          subst e
          exact absurd (j4 d A hal).1 (h2 d hd)
        · exact hud, fun hu => by
      rw [eff_sh', hu, Bool.false_or]
      cases hb : ej.sh.contains d with
      | false => rfl
      | true =>
        have := used (j3 d (by simpa using hb))
        rw [hud] at this; cases this⟩)
  refine ⟨back, on, ?_⟩
  have nb : ∀ k, Touch ei k → ¬ Touch ej k := fun k ht hu => by
    have fi : Refs oi τ k ∨ (oi.dst = some k ∧ τ.us k = false) := by
      rcases ht with h | ⟨A, h⟩ | ⟨A, h⟩
      · exact .inl (i1 k h)
      · exact .inl (i2 k A h)
      · exact .inr (i4 k A h)
    have fj : Refs oj τ k ∨ (oj.dst = some k ∧ τ.us k = false) := by
      rcases hu with h | ⟨A, h⟩ | ⟨A, h⟩
      · exact .inl (j1 k h)
      · exact .inl (j2 k A h)
      · exact .inr (j4 k A h)
    rcases fi with fi | ⟨d1, u1⟩ <;> rcases fj with fj | ⟨d2, u2⟩
    · exact hdis k fi fj
    · have := used fi; rw [u2] at this; cases this
    · have := used fj; rw [u1] at this; cases this
    · exact h2 k d1 d2
  refine Ab.ext' (funext fun t => ?_) (funext fun k => ?_) (funext fun k => ?_) (funext fun k => ?_)
  · rw [eff_s, eff_s, eff_s, eff_s]
    by_cases a : oi.dst = some t
    · have b : oj.dst ≠ some t := h2 t a
      simp [a, b]
    · simp [a]
  · by_cases a : Touch ei k
    · rw [eff_c_un (nb k a), eff_c_touch (τ' := τ) (d' := oi.dst) a]
      exact eff_c_touch (τ := τ) (d := oi.dst) a
    · by_cases b : Touch ej k
      · rw [eff_c_un (τ := τ.eff oj.dst ej) a, eff_c_touch (τ' := τ) (d' := oj.dst) b]
      · rw [eff_c_un b, eff_c_un a, eff_c_un a, eff_c_un b]
  · rw [eff_sh', eff_sh', eff_sh', eff_sh', Bool.or_assoc, Bool.or_assoc, Bool.or_comm (ei.sh.contains k)]
  · rw [eff_us, eff_us, eff_us, eff_us]
    rcases hal : ei.al with _ | ⟨d, A⟩ <;> rcases hbl : ej.al with _ | ⟨d', B⟩ <;> simp only
    by_cases c1 : k = d <;> by_cases c2 : k = d' <;> simp [c1, c2]
end
end Go.DL
