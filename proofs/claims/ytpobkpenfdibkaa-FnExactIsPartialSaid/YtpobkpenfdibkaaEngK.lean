/- Part of an evaluator of Go code on plain data, proved sound for the model: lemmas alone, for every program; each states its own conditions. -/
import Derived.Test.YtpobkpenfdibkaaEngJ
namespace Go.DL
open Go.RowKit

def cls : Op → Nat
  | .move _ | .assign _ | .pick .. | .binOp .. | .unOp .. | .field .. | .index .. | .extract .. | .convert .. | .makeFunc .. => 0
  | .call { callee := .builtin .min, .. } | .call { callee := .builtin .max, .. } => 0
  | .store .. | .call { callee := .builtin .append, .. } => 2
  | _ => 1

def compat (a b : Op) : Bool := cls a == 0 || cls b == 0 || (cls a == 1 && cls b == 1)

section
variable {P : Program} {T : Tys}

theorem TEff.plain {o : Oper} {τ : Ab} {e : Ef} (h : TEff P T o τ e) (hc : cls o.op = 0) : ∃ s, e = { s } ∧ PEff P T o.op τ.val s := by
  cases h with
  | pure s h => exact ⟨s, rfl, h⟩
  | alloc _ _ _ ho => rw [ho] at hc; simp [cls] at hc
  | box _ _ _ _ _ ho => rw [ho] at hc; simp [cls] at hc
  | build _ _ _ _ _ ho => rw [ho] at hc; simp [cls] at hc
  | buildSlice _ _ _ _ _ _ _ _ ho => rw [ho] at hc; simp [cls] at hc
  | makeSlice _ _ _ _ _ _ _ _ _ ho => rw [ho] at hc; simp [cls] at hc
  | loadE _ _ _ _ ho => rw [ho] at hc; simp [cls] at hc
  | loadA _ _ _ _ _ _ _ ho => rw [ho] at hc; simp [cls] at hc
  | loadF _ _ _ _ _ _ _ _ _ ho => rw [ho] at hc; simp [cls] at hc
  | fieldA _ _ _ _ _ _ _ ho => rw [ho] at hc; simp [cls] at hc
  | sliceA _ _ _ _ _ _ _ _ _ ho => rw [ho] at hc; simp [cls] at hc
  | indexA _ _ _ _ _ _ _ _ _ _ ho => rw [ho] at hc; simp [cls] at hc
  | lenA _ _ _ _ _ _ ho => rw [ho] at hc; simp [cls] at hc
  | call _ _ _ _ _ _ _ _ _ ho => rw [ho] at hc; simp [cls] at hc
  | callFlat _ _ _ _ _ _ _ _ ho => rw [ho] at hc; simp [cls] at hc

theorem WEff.cls2 {o : Oper} {τ : Ab} {e : Ef} (h : WEff P T o τ e) : cls o.op = 2 := by
  cases h with
  | storeA _ _ _ _ _ _ _ _ _ ho => rw [ho]; rfl
  | storeF _ _ _ _ _ _ _ _ _ _ _ ho => rw [ho]; rfl
  | appendA _ _ _ _ _ _ _ _ _ _ ho => rw [ho]; rfl
  | appendN _ _ _ _ _ _ _ ho => rw [ho]; rfl

theorem TEff.shape {o : Oper} {τ : Ab} {e : Ef} (h : TEff P T o τ e) : e.ki = none ∧ e.up = none ∧ ∀ k A, e.al = some (k, A) → o.dst = some k ∧ τ.us k = false := by
  cases h with
  | alloc t ty d ho hd hu => exact ⟨rfl, rfl, fun k A h => by cases h; exact ⟨hd, hu⟩⟩
  | box t x y ks d ho hd hu => exact ⟨rfl, rfl, fun k A h => by cases h; exact ⟨hd, hu⟩⟩
  | buildSlice t len parts e ety ds ks d ho hd hu => exact ⟨rfl, rfl, fun k A h => by cases h; exact ⟨hd, hu⟩⟩
  | makeSlice t x y m k k' e ety d ho hd hu => exact ⟨rfl, rfl, fun k A h => by cases h; exact ⟨hd, hu⟩⟩
  | call fx args tys f as ks r s al ho hf hx hc hr =>
    refine ⟨rfl, rfl, fun k A h => ?_⟩
    cases hr with
    | d x => cases h
    | own A d h1 h2 => cases h; exact ⟨h1, h2⟩
    | tupd x rest => cases h
    | tupo A rest d h1 h2 => cases h; exact ⟨h1, h2⟩
  | _ => exact ⟨rfl, rfl, fun k A h => by cases h⟩

theorem PEff.refs {op : Op} {ν : Operand → S} {s : S} (h : PEff P T op ν s) : ∀ k, refS s k → ∃ x ∈ op.operands, refS (ν x) k := by
  intro k hk
  cases h with
  | move x => exact ⟨x, by simp [Op.operands], hk⟩
  | assign x => exact ⟨x, by simp [Op.operands], hk⟩
  | pick c a b t h => cases t <;> simp only [if_true, Bool.false_eq_true, if_false] at hk
                      · exact ⟨b, by simp [Op.operands], hk⟩
                      · exact ⟨a, by simp [Op.operands], hk⟩
  | extract x i xs r hx hi =>
    refine ⟨x, by simp [Op.operands], ?_⟩
    rw [hx]
    refine ⟨r, List.mem_of_getElem? hi, ?_⟩
    cases r with
    | d y => exact hk
    | av j m => exact hk
  | _ => exact hk.elim

theorem TEff.refs {o : Oper} {τ : Ab} {e : Ef} (h : TEff P T o τ e) : ∀ k, refS e.s k → (∃ x ∈ o.op.operands, refS (τ.val x) k) ∨ ∃ A, e.al = some (k, A) := by
  intro k hk
  cases h with
  | pure s h => exact .inl (h.refs k hk)
  | alloc t ty d => exact .inr ⟨_, by rw [show k = d from hk]⟩
  | box t x y ks d => exact .inr ⟨_, by rw [show k = d from hk]⟩
  | buildSlice t len parts e ety ds ks d => exact .inr ⟨_, by rw [show k = d from hk]⟩
  | makeSlice t x y m k0 k' e ety d => exact .inr ⟨_, by rw [show k = d from hk]⟩
  | fieldA t x f Fs k0 i A ho hT hl hx hA => exact .inl ⟨x, by rw [ho]; simp [Op.operands], by rw [hx]; exact hk⟩
  | sliceA t x hi e ety k0 m h A ho hT hE hx hA hhi hh => exact .inl ⟨x, by rw [ho]; simp [Op.operands], by rw [hx]; exact hk⟩
  | indexA t x ix e ety k0 m j kd A ho hT hE hx hA hsz hi hj => exact .inl ⟨x, by rw [ho]; simp [Op.operands], by rw [hx]; exact hk⟩
  | call fx args tys f as ks r s al ho hf hx hc hr =>
    cases hr with
    | d x => exact hk.elim
    | own A d h1 h2 => exact .inr ⟨_, by rw [show k = d from hk]⟩
    | tupd x rest =>
      obtain ⟨t, ht, hr⟩ := hk
      rcases List.mem_cons.1 ht with rfl | ht
      · exact hr.elim
      · obtain ⟨y, _, rfl⟩ := List.mem_map.1 ht; exact hr.elim
    | tupo A rest d h1 h2 =>
      obtain ⟨t, ht, hr⟩ := hk
      rcases List.mem_cons.1 ht with rfl | ht
      · exact .inr ⟨_, by rw [show k = d from hr]⟩
      · obtain ⟨y, _, rfl⟩ := List.mem_map.1 ht; exact hr.elim
  | callFlat fx args tys f as ks r s ho hf hx hc hr =>
    cases hr with
    | d x => exact hk.elim
    | tup v rest =>
      obtain ⟨t, ht, hr⟩ := hk
      rcases List.mem_cons.1 ht with rfl | ht
      · exact hr.elim
      · obtain ⟨y, _, rfl⟩ := List.mem_map.1 ht; exact hr.elim
  | _ => exact hk.elim

theorem WEff.refs {o : Oper} {τ : Ab} {e : Ef} (h : WEff P T o τ e) : ∀ k, refS e.s k → ∃ A, e.al = some (k, A) := by
  intro k hk
  cases h with
  | storeA => exact hk.elim
  | storeF => exact hk.elim
  | appendA t x y e ety k0 m d => exact ⟨_, by rw [show k = d from hk]⟩
  | appendN t x y e ety d => exact ⟨_, by rw [show k = d from hk]⟩

/-! ### The parts of a state behind an effect -/
theorem Ab.ext' {a b : Ab} (h1 : a.s = b.s) (h2 : a.c = b.c) (h3 : a.sh = b.sh) (h4 : a.us = b.us) : a = b := by
  cases a; cases b; simp_all

theorem shares_sh (τ : Ab) (ks : List Nat) (k : Nat) : (τ.shares ks).sh k = (τ.sh k || ks.contains k) := by
  unfold Ab.shares
  induction ks generalizing τ with
  | nil => simp
  | cons j ks ih =>
    rw [List.foldl_cons, ih]
    by_cases h : k = j
    · subst h; simp [Ab.share]
    · simp [Ab.share, h]

theorem put_s (τ : Ab) (dst : Option Nat) (s : S) (t : Nat) : (τ.put dst s).s t = if dst = some t then s else τ.s t := by
  cases dst with
  | none => simp [Ab.put]
  | some d =>
    by_cases h : t = d
    · subst h; simp [Ab.put]
    · simp [Ab.put, h, Ne.symm h]
theorem put_c (τ : Ab) (dst : Option Nat) (s : S) : (τ.put dst s).c = τ.c := by cases dst <;> rfl
theorem put_sh (τ : Ab) (dst : Option Nat) (s : S) : (τ.put dst s).sh = τ.sh := by cases dst <;> rfl
theorem put_us (τ : Ab) (dst : Option Nat) (s : S) : (τ.put dst s).us = τ.us := by cases dst <;> rfl

theorem eff_s (τ : Ab) (dst : Option Nat) (e : Ef) (t : Nat) : (τ.eff dst e).s t = if dst = some t then e.s else τ.s t := by
  unfold Ab.eff
  rw [put_s]
  congr 1
  have h1 : ∀ (a : Ab) (o : Option (Nat × Arr)), (a.alO o).s = a.s := fun a o => by rcases o with _ | ⟨k, A⟩ <;> rfl
  have h2 : ∀ (a : Ab) (o : Option (Nat × Arr)), (a.upO o).s = a.s := fun a o => by rcases o with _ | ⟨k, A⟩ <;> rfl
  have h3 : ∀ (a : Ab) (o : Option Nat), (a.kiO o).s = a.s := fun a o => by rcases o with _ | k <;> rfl
  rw [h1, h2, h3, (shares_c τ e.sh).2.2]

theorem eff_us (τ : Ab) (dst : Option Nat) (e : Ef) (k : Nat) : (τ.eff dst e).us k = match e.al with | some (j, _) => (if k = j then true else τ.us k) | none => τ.us k := by
  unfold Ab.eff
  rw [put_us]
  have h2 : ∀ (a : Ab) (o : Option (Nat × Arr)), (a.upO o).us = a.us := fun a o => by rcases o with _ | ⟨k, A⟩ <;> rfl
  have h3 : ∀ (a : Ab) (o : Option Nat), (a.kiO o).us = a.us := fun a o => by rcases o with _ | k <;> rfl
  rcases h : e.al with _ | ⟨j, A⟩
  · simp only [Ab.alO]
    rw [h2, h3, (shares_c τ e.sh).2.1]
  · simp only [Ab.alO, Ab.al]
    rw [h2, h3, (shares_c τ e.sh).2.1]

theorem eff_sh' (τ : Ab) (dst : Option Nat) (e : Ef) (k : Nat) : (τ.eff dst e).sh k = (τ.sh k || e.sh.contains k) := by
  unfold Ab.eff
  rw [put_sh]
  have h1 : ∀ (a : Ab) (o : Option (Nat × Arr)), (a.alO o).sh = a.sh := fun a o => by rcases o with _ | ⟨k, A⟩ <;> rfl
  have h2 : ∀ (a : Ab) (o : Option (Nat × Arr)), (a.upO o).sh = a.sh := fun a o => by rcases o with _ | ⟨k, A⟩ <;> rfl
  have h3 : ∀ (a : Ab) (o : Option Nat), (a.kiO o).sh = a.sh := fun a o => by rcases o with _ | k <;> rfl
  rw [h1, h2, h3, shares_sh]

theorem eff_c (τ : Ab) (dst : Option Nat) (e : Ef) (hk : e.ki = none) (hu : e.up = none) (k : Nat) : (τ.eff dst e).c k = match e.al with | some (j, A) => (if k = j then some A else τ.c k) | none => τ.c k := by
  unfold Ab.eff
  rw [put_c, hk, hu]
  rcases h : e.al with _ | ⟨j, A⟩
  · simp only [Ab.alO, Ab.kiO, Ab.upO]
    rw [(shares_c τ e.sh).1]
  · simp only [Ab.alO, Ab.kiO, Ab.upO, Ab.al]
    rw [(shares_c τ e.sh).1]

theorem eff_put (τ : Ab) (di dj : Option Nat) (s : S) (e : Ef) (h : ∀ d, di = some d → dj ≠ some d) : (τ.put di s).eff dj e = (τ.eff dj e).put di s := by
  cases di with
  | none => rfl
  | some d =>
    have hne : dj ≠ some d := h d rfl
    refine Ab.ext' (funext fun t => ?_) (funext fun k => ?_) (funext fun k => ?_) (funext fun k => ?_)
    · rw [eff_s, put_s, put_s, eff_s]
      by_cases ht : d = t
      · subst ht
        simp [hne]
      · simp [ht]
    · rw [put_c]
      have hsh : ∀ ks, ((τ.put (some d) s).shares ks) = (τ.shares ks).put (some d) s := fun ks => by
        unfold Ab.shares
        induction ks generalizing τ with
        | nil => rfl
        | cons j ks ih => exact ih (τ.share j)
      unfold Ab.eff
      rw [put_c, put_c, hsh]
      rcases e.ki with _ | _ <;> rcases e.up with _ | ⟨_, _⟩ <;> rcases e.al with _ | ⟨_, _⟩ <;> rfl
    · rw [eff_sh', put_sh, put_sh, eff_sh']
    · rw [eff_us, put_us, put_us, eff_us]

/-! ### A step of a region -/
def Wanted (ops : Array Oper) (τ : Ab) (o : Oper) : Prop :=
  o.guard = none ∨ ∃ j want t, o.guard = some (j, want) ∧ (ops[j]?).bind (·.dst) = some t ∧ τ.s t = .d (.sc (.bool want))

inductive GEff (P : Program) (T : Tys) (ops : Array Oper) (o : Oper) (τ : Ab) : Ef → Prop
  | skip (j t : Nat) (want : Bool) (hg : o.guard = some (j, want)) (ht : (ops[j]?).bind (·.dst) = some t) (hs : τ.s t = .un ∨ τ.s t = .d (.sc (.bool (!want)))) : GEff P T ops o τ { s := .un }
  | tame (e : Ef) (hg : Wanted ops τ o) (h : TEff P T o τ e) : GEff P T ops o τ e
  | wild (e : Ef) (hg : Wanted ops τ o) (h : WEff P T o τ e) : GEff P T ops o τ e

variable {ops : Array Oper}

theorem mem_looks {o : Oper} {t : Nat} (h : Operand.tmp t ∈ o.op.operands) : t ∈ o.looksAt ops :=
  List.mem_append_left _ (List.mem_filterMap.2 ⟨.tmp t, Array.mem_def.1 h, rfl⟩)
theorem guard_looks {o : Oper} {j t : Nat} {want : Bool} (hg : o.guard = some (j, want)) (ht : (ops[j]?).bind (·.dst) = some t) : t ∈ o.looksAt ops := by
  simp [Oper.looksAt, hg, ht]

theorem val_same {o : Oper} {τ τ' : Ab} {dst : Option Nat} (hs : ∀ t, dst ≠ some t → τ'.s t = τ.s t) (h : ∀ d, dst = some d → d ∉ o.looksAt ops) : ∀ x ∈ o.op.operands, τ'.val x = τ.val x := by
  intro x hx
  cases x with
  | tmp t => exact hs t (fun e => h t e (mem_looks hx))
  | _ => rfl

theorem Wanted.same {o : Oper} {τ τ' : Ab} {dst : Option Nat} (hs : ∀ t, dst ≠ some t → τ'.s t = τ.s t) (h : ∀ d, dst = some d → d ∉ o.looksAt ops) (hw : Wanted ops τ o) : Wanted ops τ' o := by
  rcases hw with hw | ⟨j, want, t, h1, h2, h3⟩
  · exact .inl hw
  · exact .inr ⟨j, want, t, h1, h2, by rw [hs t (fun e => h t e (guard_looks h1 h2))]; exact h3⟩

theorem constS_ref (v : Value) (k : Nat) : ¬ refS (constS v) k := by
  unfold constS
  split <;> exact fun h => h

theorem val_ref {τ : Ab} (hwf : WF τ) {x : Operand} {k : Nat} (h : refS (τ.val x) k) : τ.us k = true := by
  cases x with
  | tmp t => exact hwf t k h
  | const v => exact (constS_ref v k h).elim
  | global g => exact h.elim
  | func f => exact h.elim

theorem eff_wf {o : Oper} {τ : Ab} {e : Ef} (hwf : WF τ) (h : GEff P T ops o τ e) : WF (τ.eff o.dst e) := by
  have key : ∀ k, refS e.s k → (τ.eff o.dst e).us k = true := by
    intro k hk
    have hold : τ.us k = true → (τ.eff o.dst e).us k = true := fun hu => by
      rw [eff_us]; split <;> simp_all
    have hnew : (∃ A, e.al = some (k, A)) → (τ.eff o.dst e).us k = true := fun ⟨A, hA⟩ => by rw [eff_us, hA]; simp
    cases h with
    | skip => exact hk.elim
    | tame e hg h =>
      rcases h.refs k hk with ⟨x, _, hx⟩ | hA
      · exact hold (val_ref hwf hx)
      · exact hnew hA
    | wild e hg h => exact hnew (h.refs k hk)
  intro t k hk
  rw [eff_s] at hk
  split at hk
  · exact key k hk
  · rw [eff_us]
    have := hwf t k hk
    split <;> simp_all

theorem plain_back {oj : Oper} {τ : Ab} {di : Option Nat} {s : S} {ej : Ef} (h1 : ∀ d, di = some d → d ∉ oj.looksAt ops) (hj : GEff P T ops oj (τ.put di s) ej) : GEff P T ops oj τ ej := by
  have hs : ∀ t, di ≠ some t → τ.s t = (τ.put di s).s t := fun t ht => by rw [put_s, if_neg ht]
  cases hj with
  | skip j t want hg ht hst => exact .skip j t want hg ht (by rw [hs t (fun e => h1 t e (guard_looks hg ht))]; exact hst)
  | tame e hg h => exact .tame _ (hg.same hs h1) (h.locl ⟨val_same hs h1, fun x _ k _ => by rw [put_c], fun d _ hu => by rw [put_us] at hu; exact hu⟩)
  | wild e hg h => exact .wild _ (hg.same hs h1) (h.locl (val_same hs h1) (by rw [put_c]) (by rw [put_sh]) (by rw [put_us]))

theorem plain_on {oi : Oper} {τ : Ab} {dj : Option Nat} {ej : Ef} {s : S} (h3 : ∀ d, dj = some d → d ∉ oi.looksAt ops) (hi : GEff P T ops oi τ { s }) (hp : cls oi.op = 0 ∨ ∃ j want t, oi.guard = some (j, want) ∧ (ops[j]?).bind (·.dst) = some t ∧ (τ.s t = .un ∨ τ.s t = .d (.sc (.bool (!want)))) ∧ s = .un) :
    GEff P T ops oi (τ.eff dj ej) { s } := by
  have hs : ∀ t, dj ≠ some t → (τ.eff dj ej).s t = τ.s t := fun t ht => by rw [eff_s, if_neg ht]
  rcases hp with hc | ⟨j, want, t, hg, ht, hst, rfl⟩
  · cases hi with
    | skip j t want hg ht hst => exact .skip j t want hg ht (by rw [hs t (fun e => h3 t e (guard_looks hg ht))]; exact hst)
    | tame e hg h =>
      obtain ⟨s', he, hp⟩ := h.plain hc
      have e2 : s' = s := by injection he with h; exact h.symm
      subst e2
      exact .tame _ (hg.same hs h3) (.pure _ (hp.locl (val_same hs h3)))
    | wild e hg h => rw [h.cls2] at hc; cases hc
  · exact .skip j t want hg ht (by rw [hs t (fun e => h3 t e (guard_looks hg ht))]; exact hst)

theorem commute {oi oj : Oper} {τ : Ab} {ei ej : Ef} (hap : oi.apart ops oj = true) (hcp : compat oi.op oj.op = true) (hwf : WF τ) (hi : GEff P T ops oi τ ei) (hj : GEff P T ops oj (τ.eff oi.dst ei) ej) :
    GEff P T ops oj τ ej ∧ GEff P T ops oi (τ.eff oj.dst ej) ei ∧ (τ.eff oi.dst ei).eff oj.dst ej = (τ.eff oj.dst ej).eff oi.dst ei := by
  obtain ⟨h1, h2, h3⟩ := Oper.apart_spec hap
  have h2' : ∀ d, oj.dst = some d → oi.dst ≠ some d := fun d hd he => h2 d he hd
  have plainI : ∀ s, ei = { s } → (cls oi.op = 0 ∨ ∃ j want t, oi.guard = some (j, want) ∧ (ops[j]?).bind (·.dst) = some t ∧ (τ.s t = .un ∨ τ.s t = .d (.sc (.bool (!want)))) ∧ s = .un) →
      GEff P T ops oj τ ej ∧ GEff P T ops oi (τ.eff oj.dst ej) ei ∧ (τ.eff oi.dst ei).eff oj.dst ej = (τ.eff oj.dst ej).eff oi.dst ei := by
    rintro s rfl hp
    exact ⟨plain_back h1 hj, plain_on h3 hi hp, eff_put τ oi.dst oj.dst s ej h2⟩
  cases hi with
  | skip j t want hg ht hst => exact plainI .un rfl (.inr ⟨j, want, t, hg, ht, hst, rfl⟩)
  | tame _ hg hti =>
    have hsi : ∀ t, oi.dst ≠ some t → τ.s t = (τ.eff oi.dst ei).s t := fun t ht => by rw [eff_s, if_neg ht]
    cases hj with
    | skip j t want hgj ht hst =>
      refine ⟨.skip j t want hgj ht (by rw [hsi t (fun e => h1 t e (guard_looks hgj ht))]; exact hst), ?_, ?_⟩
      · have hs : ∀ t, oj.dst ≠ some t → (τ.eff oj.dst { s := .un }).s t = τ.s t := fun t ht => by rw [eff_s, if_neg ht]
        exact .tame _ (hg.same hs h3) (hti.locl ⟨val_same hs h3, fun x _ k _ => by rw [eff_c _ _ _ rfl rfl], fun d _ hu => by rw [eff_us]; exact hu⟩)
      · exact (eff_put τ oj.dst oi.dst .un ei h2').symm
    | tame _ hgj htj =>
      obtain ⟨ki, ui, ali⟩ := hti.shape
      obtain ⟨kj, uj, alj⟩ := htj.shape
      have back : TEff P T oj τ ej := htj.locl ⟨val_same hsi h1, fun x hx k hk => by
          have hk' : τ.us k = true := val_ref hwf (by rw [val_same hsi h1 x hx]; exact hk)
          rw [eff_c _ _ _ ki ui]
          rcases hal : ei.al with _ | ⟨d, A⟩
          · rfl
          · have := (ali d A hal).2
            have hne : k ≠ d := fun e => by rw [e, this] at hk'; cases hk'
            simp [hne], fun d hd hu => by
          rw [eff_us] at hu
          rcases hal : ei.al with _ | ⟨d', A⟩ <;> rw [hal] at hu
          · exact hu
          · simp only at hu
            split at hu
            · cases hu
            · exact hu⟩
      have hs : ∀ t, oj.dst ≠ some t → (τ.eff oj.dst ej).s t = τ.s t := fun t ht => by rw [eff_s, if_neg ht]
      have alj' := back.shape.2.2
      have on : TEff P T oi (τ.eff oj.dst ej) ei := hti.locl ⟨val_same hs h3, fun x hx k hk => by
          have hk' : τ.us k = true := val_ref hwf hk
          rw [eff_c _ _ _ kj uj]
          rcases hal : ej.al with _ | ⟨d, A⟩
          · rfl
          · have := (alj' d A hal).2
            have hne : k ≠ d := fun e => by rw [e, this] at hk'; cases hk'
            simp [hne], fun d hd hu => by
          rw [eff_us]
          rcases hal : ej.al with _ | ⟨d', A⟩
          · exact hu
          · have hd' := (alj' d' A hal).1
            have hne : d ≠ d' := fun e => h2 d hd (by rw [e]; exact hd')
            simp [hne, hu]⟩
      refine ⟨.tame _ (hgj.same hsi h1) back, .tame _ (hg.same hs h3) on, Ab.ext' (funext fun t => ?_) (funext fun k => ?_) (funext fun k => ?_) (funext fun k => ?_)⟩
      · rw [eff_s, eff_s, eff_s, eff_s]
        by_cases c1 : oi.dst = some t
        · have := h2 t c1
          simp [c1, this]
        · simp [c1]
      · rw [eff_c _ _ _ kj uj, eff_c _ _ _ ki ui, eff_c _ _ _ ki ui, eff_c _ _ _ kj uj]
        rcases hal : ei.al with _ | ⟨d, A⟩ <;> rcases hbl : ej.al with _ | ⟨d', B⟩ <;> simp only
        have hd := (ali d A hal).1
        have hd' := (alj' d' B hbl).1
        have hne : d ≠ d' := fun e => h2 d hd (by rw [e]; exact hd')
        by_cases c1 : k = d
        · subst c1; simp [hne]
        · simp [c1]
      · rw [eff_sh', eff_sh', eff_sh', eff_sh', Bool.or_assoc, Bool.or_assoc, Bool.or_comm (ei.sh.contains k)]
      · rw [eff_us, eff_us, eff_us, eff_us]
        rcases hal : ei.al with _ | ⟨d, A⟩ <;> rcases hbl : ej.al with _ | ⟨d', B⟩ <;> simp only
        by_cases c1 : k = d <;> by_cases c2 : k = d' <;> simp [c1, c2]
    | wild _ hgj hwj =>
      have hc : cls oi.op = 0 := by
        have := hwj.cls2
        simp only [compat, this, Bool.or_eq_true, Bool.and_eq_true, beq_iff_eq] at hcp
        omega
      obtain ⟨s, he, _⟩ := hti.plain hc
      exact plainI s he (.inl hc)
  | wild _ hg hwi =>
    have hc : cls oj.op = 0 := by
      have := hwi.cls2
      simp only [compat, this, Bool.or_eq_true, Bool.and_eq_true, beq_iff_eq] at hcp
      omega
    have hsi : ∀ t, oi.dst ≠ some t → τ.s t = (τ.eff oi.dst ei).s t := fun t ht => by rw [eff_s, if_neg ht]
    have done : ∀ s, ej = { s } → GEff P T ops oj τ ej → GEff P T ops oj τ ej ∧ GEff P T ops oi (τ.eff oj.dst ej) ei ∧ (τ.eff oi.dst ei).eff oj.dst ej = (τ.eff oj.dst ej).eff oi.dst ei := by
      rintro s rfl hb
      refine ⟨hb, ?_, (eff_put τ oj.dst oi.dst s ei h2').symm⟩
      have hs : ∀ t, oj.dst ≠ some t → (τ.put oj.dst s).s t = τ.s t := fun t ht => by rw [put_s, if_neg ht]
      exact .wild _ (hg.same hs h3) (hwi.locl (val_same hs h3) (put_c _ _ _) (put_sh _ _ _) (put_us _ _ _))
    cases hj with
    | skip j t want hgj ht hst => exact done .un rfl (.skip j t want hgj ht (by rw [hsi t (fun e => h1 t e (guard_looks hgj ht))]; exact hst))
    | tame _ hgj htj =>
      obtain ⟨s, he, hp⟩ := htj.plain hc
      subst he
      exact done s rfl (.tame _ (hgj.same hsi h1) (.pure _ (hp.locl (val_same hsi h1))))
    | wild _ hgj hwj => rw [hwj.cls2] at hc; cases hc
end
end Go.DL
