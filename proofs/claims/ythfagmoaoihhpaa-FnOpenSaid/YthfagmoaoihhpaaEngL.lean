/- Parts of an evaluator of Go code on plain data, proved sound for the model: lemmas alone, for every program; each states its own conditions. -/
import Derived.Test.YthfagmoaoihhpaaEngI
namespace Go.DL
open Go.RowKit

/-! ### What a slot refers to; an operation looks at its operands alone -/
def refD : D → Nat → Prop
  | .ref k _, j => j = k
  | _, _ => False
def refT : T1 → Nat → Prop
  | .av k _, j => j = k
  | .fv k _, j => j = k
  | .d _, _ => False
def refS : S → Nat → Prop
  | .av k _, j => j = k
  | .ae k _, j => j = k
  | .af k _ _, j => j = k
  | .tup xs, j => ∃ t ∈ xs, refT t j
  | .fv k _, j => j = k
  | .fe k _, j => j = k
  | .ff k _ _, j => j = k
  | .dr fs, j => ∃ d ∈ fs, refD d j
  | .fa B, j => ∃ d ∈ fl B.xs, refD d j
  | .aw k _ _, j => j = k
  | _, _ => False

def WF (τ : Ab) : Prop := ∀ t k, refS (τ.s t) k → τ.us k = true

theorem RepS.ref {M : Mem} {τ : Ab} {γ : Nat → Value} {s : S} {v : Value} (h : RepS M τ γ s v) {k : Nat} (hk : refS s k) : τ.us k = true := by
  cases s with
  | av j m => rw [show k = j from hk]; exact h.1.1
  | ae j i => rw [show k = j from hk]; exact h.1
  | af j i f => rw [show k = j from hk]; exact h.1
  | tup xs =>
    obtain ⟨vs, _, _, h3⟩ := h
    obtain ⟨t, ht, hr⟩ := hk
    obtain ⟨j, hj⟩ := List.getElem?_of_mem ht
    have := h3 j t hj
    cases t with
    | d x => exact hr.elim
    | av i m => rw [show k = i from hr]; exact this.1.1
    | fv i m => rw [show k = i from hr]; exact this.1.1
  | fv j m => rw [show k = j from hk]; exact h.1.1
  | fe j i => rw [show k = j from hk]; exact h.1.1
  | ff j i f => rw [show k = j from hk]; exact h.1.1
  | aw j l m => rw [show k = j from hk]; exact h.1.1
  | dr fs =>
    obtain ⟨cs, _, _, h3⟩ := h
    obtain ⟨d, hd, hr⟩ := hk
    obtain ⟨j, hj⟩ := List.getElem?_of_mem hd
    have := (h3 j d hj).2
    cases d with
    | ref i m => rw [show k = i from hr]; exact this.1
    | _ => exact hr.elim
  | fa B =>
    obtain ⟨d, hd, hr⟩ := hk
    cases d with
    | ref i m => rw [show k = i from hr]; exact h i m hd
    | _ => exact hr.elim
  | _ => exact hk.elim

theorem Sim.wf {X : Env} {w0 : World} {M0 : Mem} {n : Nat} {τ : Ab} {ac : Act} {w : World} (h : Sim X w0 M0 n τ ac w) : WF τ := by
  obtain ⟨M, γ, h⟩ := h
  exact fun t k hk => (h.slots t).ref hk

def seen (o : Oper) (x : Operand) : Prop := x ∈ o.op.operands

theorem boundOf_local {ν ν' : Operand → S} {x : Option Operand} {d r : Nat} (hx : ∀ y, x = some y → ν' y = ν y) (h : boundOf ν x d r) : boundOf ν' x d r := by
  cases x with
  | none => exact h
  | some y => obtain ⟨k, hk⟩ := h; exact ⟨k, by rw [hx y rfl]; exact hk⟩

theorem PEff.locl {P : Program} {T : Tys} {op : Op} {ν ν' : Operand → S} {s : S} (h : PEff P T op ν s) (hx : ∀ x ∈ op.operands, ν' x = ν x) : PEff P T op ν' s := by
  cases h with
  | move x => rw [← hx x (by simp [Op.operands])]; exact .move x
  | assign x => rw [← hx x (by simp [Op.operands])]; exact .assign x
  | pick c a b t h =>
    have := PEff.pick (P := P) (T := T) (ν := ν') c a b t (by rw [hx c (by simp [Op.operands])]; exact h)
    rwa [hx a (by simp [Op.operands]), hx b (by simp [Op.operands])] at this
  | bin op t x y yt u v r h1 h2 h => exact .bin op t x y yt u v r (by rw [hx x (by simp [Op.operands])]; exact h1) (by rw [hx y (by simp [Op.operands])]; exact h2) h
  | eqA t x y yt Fs fs gs b hT h1 h2 he => exact .eqA t x y yt Fs fs gs b hT (by rw [hx x (by simp [Op.operands])]; exact h1) (by rw [hx y (by simp [Op.operands])]; exact h2) he
  | neA t x y yt Fs fs gs b hT h1 h2 he => exact .neA t x y yt Fs fs gs b hT (by rw [hx x (by simp [Op.operands])]; exact h1) (by rw [hx y (by simp [Op.operands])]; exact h2) he
  | un op t x u r h1 h => exact .un op t x u r (by rw [hx x (by simp [Op.operands])]; exact h1) h
  | field t x f Fs fs y hT hl h1 hf => exact .field t x f Fs fs y hT hl (by rw [hx x (by simp [Op.operands])]; exact h1) hf
  | fieldE t x f Fs fs y hT hl h1 hf => exact .fieldE t x f Fs fs y hT hl (by rw [hx x (by simp [Op.operands])]; exact h1) hf
  | indexD t x ix e ety xs kd j y hT hE h1 h2 h0 hy hw => exact .indexD t x ix e ety xs kd j y hT hE (by rw [hx x (by simp [Op.operands])]; exact h1) (by rw [hx ix (by simp [Op.operands])]; exact h2) h0 hy hw
  | indexS t x ix s kd j b hT h1 h2 h0 hb => exact .indexS t x ix s kd j b hT (by rw [hx x (by simp [Op.operands])]; exact h1) (by rw [hx ix (by simp [Op.operands])]; exact h2) h0 hb
  | sliceD t x lo hi e ety xs l h hT hE h1 hlo hhi hlh hh hw =>
    exact .sliceD t x lo hi e ety xs l h hT hE (by rw [hx x (by simp [Op.operands])]; exact h1) (boundOf_local (fun y hy => hx y (by subst hy; simp [Op.operands])) hlo)
      (boundOf_local (fun y hy => hx y (by subst hy; simp [Op.operands])) hhi) hlh hh hw
  | extract x i xs r h1 hi => exact .extract x i xs r (by rw [hx x (by simp [Op.operands])]; exact h1) hi
  | lenD t x e xs hT h1 => exact .lenD t x e xs hT (by rw [hx x (by simp [Op.operands, Call.operands])]; exact h1)
  | lenN t x e hT h1 => exact .lenN t x e hT (by rw [hx x (by simp [Op.operands, Call.operands])]; exact h1)
  | fieldF t x f Fs k i hT hl h1 => exact .fieldF t x f Fs k i hT hl (by rw [hx x (by simp [Op.operands])]; exact h1)
  | fieldR t x f Fs fs y s hT hl h1 hf hs => exact .fieldR t x f Fs fs y s hT hl (by rw [hx x (by simp [Op.operands])]; exact h1) hf hs
  | lenF t x e k m hT h1 => exact .lenF t x e k m hT (by rw [hx x (by simp [Op.operands, Call.operands])]; exact h1)
  | lenS t x s hT h1 => exact .lenS t x s hT (by rw [hx x (by simp [Op.operands, Call.operands])]; exact h1)
  | min x y t a b h1 h2 => exact .min x y t a b (by rw [hx x (by simp [Op.operands, Call.operands])]; exact h1) (by rw [hx y (by simp [Op.operands, Call.operands])]; exact h2)
  | max x y t a b h1 h2 => exact .max x y t a b (by rw [hx x (by simp [Op.operands, Call.operands])]; exact h1) (by rw [hx y (by simp [Op.operands, Call.operands])]; exact h2)
  | mkfn f => exact .mkfn f
  | conv src dst x k k' m sty hs hd h1 => exact .conv src dst x k k' m sty hs hd (by rw [hx x (by simp [Op.operands])]; exact h1)

/-- τ' shows the operands of o the same, and what they refer to. -/
structure Same (o : Oper) (τ τ' : Ab) : Prop where
  v : ∀ x ∈ o.op.operands, τ'.val x = τ.val x
  c : ∀ x ∈ o.op.operands, ∀ k, refS (τ.val x) k → τ'.c k = τ.c k
  u : ∀ d, o.dst = some d → τ.us d = false → τ'.us d = false

theorem ToD.locl {τ τ' : Ab} {s : S} {x : D} {ks : List Nat} (h : ToD τ s x ks) (hc : ∀ k, refS s k → τ'.c k = τ.c k) : ToD τ' s x ks := by
  cases h with
  | d => exact .d x
  | nil => exact .nil
  | av k m A hA => exact .av k m A (by rw [hc k rfl]; exact hA)
theorem ToCont.locl {τ τ' : Ab} {s : S} {x : List D} (h : ToCont τ s x) (hc : ∀ k, refS s k → τ'.c k = τ.c k) : ToCont τ' s x := by
  cases h with
  | d => exact .d x
  | nil => exact .nil
  | av k m A hA => exact .av k m A (by rw [hc k rfl]; exact hA)
  | aw k l m A hA => exact .aw k l m A (by rw [hc k rfl]; exact hA)
theorem ToDs.locl {τ τ' : Ab} {ss : List S} {xs : List D} {ks : List Nat} (h : ToDs τ ss xs ks) (hc : ∀ s ∈ ss, ∀ k, refS s k → τ'.c k = τ.c k) : ToDs τ' ss xs ks := by
  induction h with
  | nil => exact .nil
  | cons h t ih => exact .cons (h.locl (hc _ List.mem_cons_self)) (ih fun s hs => hc s (List.mem_cons_of_mem _ hs))
theorem ToA.locl {τ τ' : Ab} {s : S} {x : A1} {ks : List Nat} (h : ToA τ s x ks) (hc : ∀ k, refS s k → τ'.c k = τ.c k) : ToA τ' s x ks := by
  cases h with
  | d h => exact .d (h.locl hc)
  | fn f => exact .fn f
theorem ToAs.locl {τ τ' : Ab} {ss : List S} {xs : List A1} {ks : List Nat} (h : ToAs τ ss xs ks) (hc : ∀ s ∈ ss, ∀ k, refS s k → τ'.c k = τ.c k) : ToAs τ' ss xs ks := by
  induction h with
  | nil => exact .nil
  | cons h t ih => exact .cons (h.locl (hc _ List.mem_cons_self)) (ih fun s hs => hc s (List.mem_cons_of_mem _ hs))

theorem TEff.locl {P : Program} {T : Tys} {o : Oper} {τ τ' : Ab} {e : Ef} (h : TEff P T o τ e) (hs : Same o τ τ') : TEff P T o τ' e := by
  obtain ⟨hv, hc, hu⟩ := hs
  cases h with
  | pure s h => exact .pure s (h.locl hv)
  | alloc t ty d ho hd hus hT hw => exact .alloc t ty d ho hd (hu d hd hus) hT hw
  | box t x y ks d ho hd hus hx hw =>
    have hm : x ∈ o.op.operands := by rw [ho]; simp [Op.operands]
    exact .box t x y ks d ho hd (hu d hd hus) (by rw [hv x hm]; exact hx.locl (hc x hm)) hw
  | build t parts Fs ds ks ho hT hx hcl hi =>
    have hm : ∀ p ∈ parts.toList, p.2 ∈ o.op.operands := fun p hp => by rw [ho]; simp only [Op.operands, List.mem_toArray, List.mem_map]; exact ⟨p, hp, rfl⟩
    refine .build t parts Fs ds ks ho hT ?_ hcl hi
    have e : (parts.toList.map fun p => τ'.val p.2) = parts.toList.map fun p => τ.val p.2 := List.map_congr_left fun p hp => hv p.2 (hm p hp)
    rw [e]
    exact hx.locl fun s hs k hk => by obtain ⟨p, hp, rfl⟩ := List.mem_map.1 hs; exact hc p.2 (hm p hp) k hk
  | buildSlice t len parts e ety ds ks d ho hd hus hT hE hx hcl hi hw hl =>
    have hm : ∀ p ∈ parts.toList, p.2 ∈ o.op.operands := fun p hp => by rw [ho]; simp only [Op.operands, List.mem_toArray, List.mem_map]; exact ⟨p, hp, rfl⟩
    refine .buildSlice t len parts e ety ds ks d ho hd (hu d hd hus) hT hE ?_ hcl hi hw hl
    have e : (parts.toList.map fun p => τ'.val p.2) = parts.toList.map fun p => τ.val p.2 := List.map_congr_left fun p hp => hv p.2 (hm p hp)
    rw [e]
    exact hx.locl fun s hs k hk => by obtain ⟨p, hp, rfl⟩ := List.mem_map.1 hs; exact hc p.2 (hm p hp) k hk
  | makeSlice t x y m k k' e ety d ho hd hus hT hE hx hy hm hw =>
    exact .makeSlice t x y m k k' e ety d ho hd (hu d hd hus) hT hE (by rw [hv x (by rw [ho]; simp [Op.operands])]; exact hx) (by rw [hv y (by rw [ho]; simp [Op.operands])]; exact hy) hm hw
  | loadE t x y ty ho hT hx hf => exact .loadE t x y ty ho hT (by rw [hv x (by rw [ho]; simp [Op.operands])]; exact hx) hf
  | loadA t x k i A y ty ho hT hx hA hy hf =>
    have hm : x ∈ o.op.operands := by rw [ho]; simp [Op.operands]
    exact .loadA t x k i A y ty ho hT (by rw [hv x hm]; exact hx) (by rw [hc x hm k (by rw [hx]; rfl)]; exact hA) hy hf
  | loadF t x k i f A fs y ty ho hT hx hA hi hy hf =>
    have hm : x ∈ o.op.operands := by rw [ho]; simp [Op.operands]
    exact .loadF t x k i f A fs y ty ho hT (by rw [hv x hm]; exact hx) (by rw [hc x hm k (by rw [hx]; rfl)]; exact hA) hi hy hf
  | fieldA t x f Fs k i A ho hT hl hx hA =>
    have hm : x ∈ o.op.operands := by rw [ho]; simp [Op.operands]
    exact .fieldA t x f Fs k i A ho hT hl (by rw [hv x hm]; exact hx) (by rw [hc x hm k (by rw [hx]; rfl)]; exact hA)
  | sliceA t x hi e ety k m h A ho hT hE hx hA hhi hh =>
    have hm : x ∈ o.op.operands := by rw [ho]; simp [Op.operands]
    exact .sliceA t x hi e ety k m h A ho hT hE (by rw [hv x hm]; exact hx) (by rw [hc x hm k (by rw [hx]; rfl)]; exact hA) (boundOf_local (fun y hy => hv y (by rw [ho]; subst hy; simp [Op.operands])) hhi) hh
  | sliceW t x lo hi e ety k m l h A ho hT hE hx hA hsz hlo hhi hlh hh =>
    have hm : x ∈ o.op.operands := by rw [ho]; simp [Op.operands]
    exact .sliceW t x lo hi e ety k m l h A ho hT hE (by rw [hv x hm]; exact hx) (by rw [hc x hm k (by rw [hx]; rfl)]; exact hA) hsz (boundOf_local (fun y hy => hv y (by rw [ho]; cases hy; simp [Op.operands])) hlo) (boundOf_local (fun y hy => hv y (by rw [ho]; subst hy; simp [Op.operands])) hhi) hlh hh
  | indexA t x ix e ety k m j kd A ho hT hE hx hA hsz hi hj =>
    have hm : x ∈ o.op.operands := by rw [ho]; simp [Op.operands]
    exact .indexA t x ix e ety k m j kd A ho hT hE (by rw [hv x hm]; exact hx) (by rw [hc x hm k (by rw [hx]; rfl)]; exact hA) hsz (by rw [hv ix (by rw [ho]; simp [Op.operands])]; exact hi) hj
  | lenA t x e k m ho hT hx =>
    have hm : x ∈ o.op.operands := by rw [ho]; simp [Op.operands, Call.operands]
    exact .lenA t x e k m ho hT (by rw [hv x hm]; exact hx)
  | convS src dst e x bs ho hT hE hD hx =>
    have hm : x ∈ o.op.operands := by rw [ho]; simp [Op.operands]
    exact .convS src dst e x bs ho hT hE hD (by rw [hv x hm]; exact hx.locl (hc x hm))
  | nilA x k i A ho hx hA =>
    have hm : x ∈ o.op.operands := by rw [ho]; simp [Op.operands]
    exact .nilA x k i A ho (by rw [hv x hm]; exact hx) (by rw [hc x hm k (by rw [hx]; rfl)]; exact hA)
  | call fx args tys f as ks r s al ho hf hx hct hr =>
    have hm : ∀ p ∈ args.toList, p ∈ o.op.operands := fun p hp => by rw [ho]; simp only [Op.operands, Call.operands]; exact Array.mem_append.2 (.inr (Array.mem_def.2 hp))
    have hr' : ResE τ' o.dst r s al := by
      cases hr with
      | d x => exact .d x
      | unit => exact .unit
      | own A d h1 h2 => exact .own A d h1 (hu d h1 h2)
      | ptr A d h1 h2 => exact .ptr A d h1 (hu d h1 h2)
      | tupd x rest => exact .tupd x rest
      | tupo A rest d h1 h2 => exact .tupo A rest d h1 (hu d h1 h2)
    refine .call fx args tys f as ks r s al ho (by rw [hv fx (by rw [ho]; simp [Op.operands, Call.operands])]; exact hf) ?_ hct hr'
    have e : args.toList.map τ'.val = args.toList.map τ.val := List.map_congr_left fun p hp => hv p (hm p hp)
    rw [e]
    exact hx.locl fun s hs k hk => by obtain ⟨p, hp, rfl⟩ := List.mem_map.1 hs; exact hc p (hm p hp) k hk
  | callFlat fx args tys f as ks r s ho hf hx hct hr =>
    have hm : ∀ p ∈ args.toList, p ∈ o.op.operands := fun p hp => by rw [ho]; simp only [Op.operands, Call.operands]; exact Array.mem_append.2 (.inr (Array.mem_def.2 hp))
    refine .callFlat fx args tys f as ks r s ho (by rw [hv fx (by rw [ho]; simp [Op.operands, Call.operands])]; exact hf) ?_ hct hr
    have e : args.toList.map τ'.val = args.toList.map τ.val := List.map_congr_left fun p hp => hv p (hm p hp)
    rw [e]
    exact hx.locl fun s hs k hk => by obtain ⟨p, hp, rfl⟩ := List.mem_map.1 hs; exact hc p (hm p hp) k hk
  | callFr fx args tys f as ks r s p ho hf hx hct hr =>
    have hm : ∀ p ∈ args.toList, p ∈ o.op.operands := fun p hp => by rw [ho]; simp only [Op.operands, Call.operands]; exact Array.mem_append.2 (.inr (Array.mem_def.2 hp))
    refine .callFr fx args tys f as ks r s p ho (by rw [hv fx (by rw [ho]; simp [Op.operands, Call.operands])]; exact hf) ?_ hct (hr.usd hu)
    have e : args.toList.map τ'.val = args.toList.map τ.val := List.map_congr_left fun p hp => hv p (hm p hp)
    rw [e]
    exact hx.locl fun s hs k hk => by obtain ⟨p, hp, rfl⟩ := List.mem_map.1 hs; exact hc p (hm p hp) k hk

theorem ToLs.locl {τ τ' : Ab} {k : Nat} {A : Option Arr} {ss : List S} {xs : List A2} {ks : List Nat} (h : ToLs τ k A ss xs ks) (hc : ∀ s ∈ ss, ∀ j, refS s j → τ'.c j = τ.c j) : ToLs τ' k A ss xs ks := by
  induction h with
  | nil => exact .nil
  | cons h t ih => exact .cons (h.locl fun j hj => hc _ List.mem_cons_self j (by obtain ⟨m, e⟩ := hj; subst e; rfl)) (ih fun s hs => hc s (List.mem_cons_of_mem _ hs))
theorem ResE.usd {τ τ' : Ab} {dst : Option Nat} {r : Res} {s : S} {al : Option (Nat × Arr)} (h : ResE τ dst r s al) (hu : ∀ d, dst = some d → τ.us d = false → τ'.us d = false) : ResE τ' dst r s al := by
  cases h with
  | d x => exact .d x
  | unit => exact .unit
  | own A d h1 h2 => exact .own A d h1 (hu d h1 h2)
  | ptr A d h1 h2 => exact .ptr A d h1 (hu d h1 h2)
  | tupd x rest => exact .tupd x rest
  | tupo A rest d h1 h2 => exact .tupo A rest d h1 (hu d h1 h2)
theorem args_mem {o : Oper} {fx : Operand} {args : Array Operand} {tys : Array TypeId} (ho : o.op = .call { callee := .value fx, args, argTypes := tys }) : ∀ p ∈ args.toList, p ∈ o.op.operands := fun p hp => by
  rw [ho]; simp only [Op.operands, Call.operands]; exact Array.mem_append.2 (.inr (Array.mem_def.2 hp))
theorem WEff.locl {P : Program} {T : Tys} {R : List Nat} {o : Oper} {τ τ' : Ab} {e : Ef} (h : WEff P T R o τ e) (hv : ∀ x ∈ o.op.operands, τ'.val x = τ.val x) (hc : τ'.c = τ.c) (hs : τ'.sh = τ.sh) (hu : τ'.us = τ.us) : WEff P T R o τ' e := by
  have hss : ∀ ks : List Nat, (τ'.shares ks).sh = (τ.shares ks).sh := fun ks => by
    clear hv h hc hu
    induction ks generalizing τ τ' with
    | nil => exact hs
    | cons k ks ih => exact ih (τ := τ.share k) (τ' := τ'.share k) (by simp [Ab.share, hs])
  cases h with
  | storeA t x y k i A z ks ty ho hT hx hA hy hsh hi hz hw =>
    exact .storeA t x y k i A z ks ty ho hT (by rw [hv x (by rw [ho]; simp [Op.operands])]; exact hx) (by rw [hc]; exact hA) (by rw [hv y (by rw [ho]; simp [Op.operands])]; exact hy.of_c hc) (by rw [hss]; exact hsh) hi hz hw
  | storeF t x y k i f A fs z ks ty ho hT hx hA hy hsh hi hf hz hw =>
    exact .storeF t x y k i f A fs z ks ty ho hT (by rw [hv x (by rw [ho]; simp [Op.operands])]; exact hx) (by rw [hc]; exact hA) (by rw [hv y (by rw [ho]; simp [Op.operands])]; exact hy.of_c hc) (by rw [hss]; exact hsh) hi hf hz hw
  | appendA t x y e ety k m d A ys ho hd hus hds hT hE hx hA hsh he hsz hy hw hl =>
    refine .appendA t x y e ety k m d A ys ho hd (by rw [hu]; exact hus) (by rw [hs]; exact hds) hT hE (by rw [hv x (by rw [ho]; simp [Op.operands, Call.operands])]; exact hx) (by rw [hc]; exact hA) (by rw [hs]; exact hsh) he hsz ?_ hw hl
    rw [hv y (by rw [ho]; simp [Op.operands, Call.operands])]
    exact hy.locl fun k _ => by rw [hc]
  | appendN t x y e ety d ys ho hd hus hT hE hp hx hy hw hl =>
    refine .appendN t x y e ety d ys ho hd (by rw [hu]; exact hus) hT hE hp (by rw [hv x (by rw [ho]; simp [Op.operands, Call.operands])]; exact hx) ?_ hw hl
    rw [hv y (by rw [ho]; simp [Op.operands, Call.operands])]
    exact hy.locl fun k _ => by rw [hc]
  | lcall fx args tys f as ks k A r xs s al ho hfx hL hx hk hA hsh hct hr =>
    have hm := args_mem ho
    have e : args.toList.map τ'.val = args.toList.map τ.val := List.map_congr_left fun p hp => hv p (hm p hp)
    refine .lcall fx args tys f as ks k A r xs s al ho hfx hL (by rw [e]; exact hx.locl fun s _ j _ => by rw [hc]) ?_ (by rw [hc]; exact hA) (by rw [hss]; exact hsh) hct (hr.usd fun d _ h => by rw [hu]; exact h)
    obtain ⟨p, hp, h1⟩ := hk
    exact ⟨p, hp, by rw [hv p (hm p hp)]; exact h1⟩
end Go.DL

namespace Go.DL
open Go.RowKit

def cls (R : List Nat) : Op → Nat
  | .move _ | .assign _ | .pick .. | .binOp .. | .unOp .. | .field .. | .index .. | .extract .. | .makeFunc .. => 0
  | .call { callee := .builtin .min, .. } | .call { callee := .builtin .max, .. } => 0
  | .store .. | .call { callee := .builtin .append, .. } => 2
  | .call { callee := .value (.func f), .. } => if R.contains (100000 + f) then 2 else 1
  | .load t _ => if R.contains (500000 + t) || R.contains (700000 + t) then 2 else 1
  | _ => 1

def compat (R : List Nat) (a b : Op) : Bool := cls R a == 0 || cls R b == 0 || (cls R a == 1 && cls R b == 1)

section
variable {P : Program} {T : Tys} {R : List Nat}

theorem cls_call (R : List Nat) (fx : Operand) (args : Array Operand) (tys : Array TypeId) : cls R (.call { callee := .value fx, args, argTypes := tys }) ≠ 0 := by
  cases fx with
  | func f => simp only [cls]; split <;> decide
  | _ => simp [cls]
theorem TEff.plain {o : Oper} {τ : Ab} {e : Ef} (h : TEff P T o τ e) (hc : cls R o.op = 0) : ∃ s, e = { s } ∧ PEff P T o.op τ.val s := by
  cases h with
  | pure s h => exact ⟨s, rfl, h⟩
  | alloc _ _ _ ho => rw [ho] at hc; simp [cls] at hc
  | box _ _ _ _ _ ho => rw [ho] at hc; simp [cls] at hc
  | build _ _ _ _ _ ho => rw [ho] at hc; simp [cls] at hc
  | buildSlice _ _ _ _ _ _ _ _ ho => rw [ho] at hc; simp [cls] at hc
  | makeSlice _ _ _ _ _ _ _ _ _ ho => rw [ho] at hc; simp [cls] at hc
  | loadE _ _ _ _ ho => rw [ho] at hc; simp only [cls] at hc; split at hc <;> cases hc
  | loadA _ _ _ _ _ _ _ ho => rw [ho] at hc; simp only [cls] at hc; split at hc <;> cases hc
  | loadF _ _ _ _ _ _ _ _ _ ho => rw [ho] at hc; simp only [cls] at hc; split at hc <;> cases hc
  | fieldA _ _ _ _ _ _ _ ho => rw [ho] at hc; simp [cls] at hc
  | sliceA _ _ _ _ _ _ _ _ _ ho => rw [ho] at hc; simp [cls] at hc
  | sliceW _ _ _ _ _ _ _ _ _ _ _ ho => rw [ho] at hc; simp [cls] at hc
  | indexA _ _ _ _ _ _ _ _ _ _ ho => rw [ho] at hc; simp [cls] at hc
  | lenA _ _ _ _ _ ho => rw [ho] at hc; simp [cls] at hc
  | nilA _ _ _ _ ho => rw [ho] at hc; simp [cls] at hc
  | convS _ _ _ _ _ ho => rw [ho] at hc; simp [cls] at hc
  | call _ _ _ _ _ _ _ _ _ ho => rw [ho] at hc; exact absurd hc (cls_call R _ _ _)
  | callFlat _ _ _ _ _ _ _ _ ho => rw [ho] at hc; exact absurd hc (cls_call R _ _ _)
  | callFr _ _ _ _ _ _ _ _ _ ho => rw [ho] at hc; exact absurd hc (cls_call R _ _ _)

theorem WEff.cls2 {o : Oper} {τ : Ab} {e : Ef} (h : WEff P T R o τ e) : cls R o.op = 2 := by
  cases h with
  | storeA _ _ _ _ _ _ _ _ _ ho => rw [ho]; rfl
  | storeF _ _ _ _ _ _ _ _ _ _ _ ho => rw [ho]; rfl
  | appendA _ _ _ _ _ _ _ _ _ _ ho => rw [ho]; rfl
  | appendN _ _ _ _ _ _ _ ho => rw [ho]; rfl
  | lcall fx _ _ f _ _ _ _ _ _ _ _ ho hfx hL => rw [ho, hfx]; simp only [cls]; rw [if_pos hL]

theorem TEff.shape {o : Oper} {τ : Ab} {e : Ef} (h : TEff P T o τ e) : e.ki = none ∧ e.up = none ∧ ∀ k A, e.al = some (k, A) → o.dst = some k ∧ τ.us k = false := by
  cases h with
  | alloc t ty d ho hd hu => exact ⟨rfl, rfl, fun k A h => by cases h; exact ⟨hd, hu⟩⟩
  | box t x y ks d ho hd hu => exact ⟨rfl, rfl, fun k A h => by cases h; exact ⟨hd, hu⟩⟩
  | buildSlice t len parts e ety ds ks d ho hd hu => exact ⟨rfl, rfl, fun k A h => by cases h; exact ⟨hd, hu⟩⟩
  | makeSlice t x y m k k' e ety d ho hd hu => exact ⟨rfl, rfl, fun k A h => by cases h; exact ⟨hd, hu⟩⟩
  | call fx args tys f as ks r s al ho hf hx hc hr =>
    refine ⟨rfl, rfl, fun k A h => ?_⟩
    cases hr with
    | d x => cases h
    | unit => cases h
    | own A d h1 h2 => cases h; exact ⟨h1, h2⟩
    | ptr A d h1 h2 => cases h; exact ⟨h1, h2⟩
    | tupd x rest => cases h
    | tupo A rest d h1 h2 => cases h; exact ⟨h1, h2⟩
  | callFr fx args tys f as ks r s p ho hf hx hc hr => exact ⟨rfl, rfl, fun k A h => by cases h; exact hr.fst⟩
  | _ => exact ⟨rfl, rfl, fun k A h => by cases h⟩

theorem PEff.refs {op : Op} {ν : Operand → S} {s : S} (h : PEff P T op ν s) : ∀ k, refS s k → ∃ x ∈ op.operands, refS (ν x) k := by
  intro k hk
  cases h with
  | move x => exact ⟨x, by simp [Op.operands], hk⟩
  | assign x => exact ⟨x, by simp [Op.operands], hk⟩
  | pick c a b t h => cases t <;> simp only [if_true, Bool.false_eq_true, if_false] at hk
                      · exact ⟨b, by simp [Op.operands], hk⟩
                      · exact ⟨a, by simp [Op.operands], hk⟩
  | extract x i xs r hx hi =>
    refine ⟨x, by simp [Op.operands], ?_⟩
    rw [hx]
    refine ⟨r, List.mem_of_getElem? hi, ?_⟩
    cases r with
    | d y => exact hk
    | av j m => exact hk
    | fv j m => exact hk
  | fieldF t x f Fs k0 i hT hl hx => exact ⟨x, by simp [Op.operands], by rw [hx]; exact hk⟩
  | fieldR t x f Fs fs y _ hT hl hx hf hs =>
    refine ⟨x, by simp [Op.operands], ?_⟩
    rw [hx]
    cases hs with
    | d _ h => exact hk.elim
    | av k0 m => exact ⟨_, List.mem_of_getElem? hf, hk⟩
    | fv k0 m => exact ⟨_, List.mem_of_getElem? hf, hk⟩
  | _ => exact hk.elim

theorem TEff.refs {o : Oper} {τ : Ab} {e : Ef} (h : TEff P T o τ e) : ∀ k, refS e.s k → (∃ x ∈ o.op.operands, refS (τ.val x) k) ∨ ∃ A, e.al = some (k, A) := by
  intro k hk
  cases h with
  | pure s h => exact .inl (h.refs k hk)
  | alloc t ty d => exact .inr ⟨_, by rw [show k = d from hk]⟩
  | box t x y ks d => exact .inr ⟨_, by rw [show k = d from hk]⟩
  | buildSlice t len parts e ety ds ks d => exact .inr ⟨_, by rw [show k = d from hk]⟩
  | makeSlice t x y m k0 k' e ety d => exact .inr ⟨_, by rw [show k = d from hk]⟩
  | fieldA t x f Fs k0 i A ho hT hl hx hA => exact .inl ⟨x, by rw [ho]; simp [Op.operands], by rw [hx]; exact hk⟩
  | sliceA t x hi e ety k0 m h A ho hT hE hx hA hhi hh => exact .inl ⟨x, by rw [ho]; simp [Op.operands], by rw [hx]; exact hk⟩
  | sliceW t x lo hi e ety k0 m l h A ho hT hE hx hA hsz hlo hhi hlh hh => exact .inl ⟨x, by rw [ho]; simp [Op.operands], by rw [hx]; exact hk⟩
  | indexA t x ix e ety k0 m j kd A ho hT hE hx hA hsz hi hj => exact .inl ⟨x, by rw [ho]; simp [Op.operands], by rw [hx]; exact hk⟩
  | nilA x k0 i A ho hx hA => exact .inl ⟨x, by rw [ho]; simp [Op.operands], by rw [hx]; exact hk⟩
  | call fx args tys f as ks r s al ho hf hx hc hr =>
    cases hr with
    | d x => exact hk.elim
    | unit => exact hk.elim
    | own A d h1 h2 => exact .inr ⟨_, by rw [show k = d from hk]⟩
    | ptr A d h1 h2 => exact .inr ⟨_, by rw [show k = d from hk]⟩
    | tupd x rest =>
      obtain ⟨t, ht, hr⟩ := hk
      rcases List.mem_cons.1 ht with rfl | ht
      · exact hr.elim
      · obtain ⟨y, _, rfl⟩ := List.mem_map.1 ht; exact hr.elim
    | tupo A rest d h1 h2 =>
      obtain ⟨t, ht, hr⟩ := hk
      rcases List.mem_cons.1 ht with rfl | ht
      · exact .inr ⟨_, by rw [show k = d from hr]⟩
      · obtain ⟨y, _, rfl⟩ := List.mem_map.1 ht; exact hr.elim
  | callFlat fx args tys f as ks r s ho hf hx hc hr =>
    cases hr with
    | d x => exact hk.elim
    | tup v rest =>
      obtain ⟨t, ht, hr⟩ := hk
      rcases List.mem_cons.1 ht with rfl | ht
      · exact hr.elim
      · obtain ⟨y, _, rfl⟩ := List.mem_map.1 ht; exact hr.elim
  | callFr fx args tys f as ks r s p ho hf hx hc hr =>
    refine .inr ⟨p.2, ?_⟩
    have : k = p.1 := by
      cases hr with
      | one A d h hu => exact hk
      | tup A rest d h hu =>
        obtain ⟨t, ht, h⟩ := hk
        rcases List.mem_cons.1 ht with rfl | ht
        · exact h
        · obtain ⟨u, _, rfl⟩ := List.mem_map.1 ht; exact h.elim
    subst this; rfl
  | _ => exact hk.elim

theorem WEff.refs {o : Oper} {τ : Ab} {e : Ef} (h : WEff P T R o τ e) : ∀ k, refS e.s k → ∃ A, e.al = some (k, A) := by
  intro k hk
  cases h with
  | storeA => exact hk.elim
  | storeF => exact hk.elim
  | appendA t x y e ety k0 m d => exact ⟨_, by rw [show k = d from hk]⟩
  | appendN t x y e ety d => exact ⟨_, by rw [show k = d from hk]⟩
  | lcall fx args tys f as ks k0 A r xs s al ho hfx hL hx hk0 hA hsh hc hr =>
    cases hr with
    | d x => exact hk.elim
    | unit => exact hk.elim
    | own A d h1 h2 => exact ⟨_, by rw [show k = d from hk]⟩
    | ptr A d h1 h2 => exact ⟨_, by rw [show k = d from hk]⟩
    | tupd x rest =>
      obtain ⟨t, ht, hr⟩ := hk
      rcases List.mem_cons.1 ht with rfl | ht
      · exact hr.elim
      · obtain ⟨y, _, rfl⟩ := List.mem_map.1 ht; exact hr.elim
    | tupo A rest d h1 h2 =>
      obtain ⟨t, ht, hr⟩ := hk
      rcases List.mem_cons.1 ht with rfl | ht
      · exact ⟨_, by rw [show k = d from hr]⟩
      · obtain ⟨y, _, rfl⟩ := List.mem_map.1 ht; exact hr.elim

/-! ### The parts of a state behind an effect -/
theorem Ab.ext' {a b : Ab} (h1 : a.s = b.s) (h2 : a.c = b.c) (h3 : a.sh = b.sh) (h4 : a.us = b.us) : a = b := by
  cases a; cases b; simp_all

theorem shares_sh (τ : Ab) (ks : List Nat) (k : Nat) : (τ.shares ks).sh k = (τ.sh k || ks.contains k) := by
  unfold Ab.shares
  induction ks generalizing τ with
  | nil => simp
  | cons j ks ih =>
    rw [List.foldl_cons, ih]
    by_cases h : k = j
    · subst h; simp [Ab.share]
    · simp [Ab.share, h]

theorem put_s (τ : Ab) (dst : Option Nat) (s : S) (t : Nat) : (τ.put dst s).s t = if dst = some t then s else τ.s t := by
  cases dst with
  | none => simp [Ab.put]
  | some d =>
    by_cases h : t = d
    · subst h; simp [Ab.put]
    · simp [Ab.put, h, Ne.symm h]
theorem put_c (τ : Ab) (dst : Option Nat) (s : S) : (τ.put dst s).c = τ.c := by cases dst <;> rfl
theorem put_sh (τ : Ab) (dst : Option Nat) (s : S) : (τ.put dst s).sh = τ.sh := by cases dst <;> rfl
theorem put_us (τ : Ab) (dst : Option Nat) (s : S) : (τ.put dst s).us = τ.us := by cases dst <;> rfl

theorem upd_s (a : Ab) (e : Ef) : ((((a.shares e.sh).kiO e.ki).upO e.up).alO e.al).s = a.s := by
  have h1 : ∀ (a : Ab) (o : Option (Nat × Arr)), (a.alO o).s = a.s := fun a o => by rcases o with _ | ⟨k, A⟩ <;> rfl
  have h2 : ∀ (a : Ab) (o : Option (Nat × Arr)), (a.upO o).s = a.s := fun a o => by rcases o with _ | ⟨k, A⟩ <;> rfl
  have h3 : ∀ (a : Ab) (o : Option Nat), (a.kiO o).s = a.s := fun a o => by rcases o with _ | k <;> rfl
  rw [h1, h2, h3, (shares_c a e.sh).2.2]
theorem eff_sg (τ : Ab) (dst : Option Nat) (e : Ef) (t : Nat) : (τ.eff dst e).s t = if dst = some t then e.s else (lkG t e.gh).getD (τ.s t) := by
  unfold Ab.eff
  rw [put_s, gho_s, upd_s]
/-- The ghost slots of an effect lie far off. -/
def GhOK (e : Ef) : Prop := ∀ p ∈ e.gh, 1000000 ≤ p.1
theorem lkG_none {l : List (Nat × S)} {t : Nat} (h : ∀ p ∈ l, 1000000 ≤ p.1) (ht : t < 1000000) : lkG t l = none := by
  induction l with
  | nil => rfl
  | cons p r ih =>
    obtain ⟨j, s⟩ := p
    have h1 := h (j, s) List.mem_cons_self
    simp only at h1
    simp only [lkG]
    rw [if_neg (by omega)]
    exact ih fun p hp => h p (List.mem_cons_of_mem _ hp)
theorem eff_s (τ : Ab) (dst : Option Nat) (e : Ef) (hg : GhOK e) (t : Nat) (ht : t < 1000000) : (τ.eff dst e).s t = if dst = some t then e.s else τ.s t := by
  rw [eff_sg, lkG_none hg ht]; rfl

theorem eff_us (τ : Ab) (dst : Option Nat) (e : Ef) (k : Nat) : (τ.eff dst e).us k = (e.nu.contains k || match e.al with | some (j, _) => (if k = j then true else τ.us k) | none => τ.us k) := by
  unfold Ab.eff
  rw [put_us, gho_us]
  have h2 : ∀ (a : Ab) (o : Option (Nat × Arr)), (a.upO o).us = a.us := fun a o => by rcases o with _ | ⟨k, A⟩ <;> rfl
  have h3 : ∀ (a : Ab) (o : Option Nat), (a.kiO o).us = a.us := fun a o => by rcases o with _ | k <;> rfl
  congr 1
  rcases h : e.al with _ | ⟨j, A⟩
  · simp only [Ab.alO]
    rw [h2, h3, (shares_c τ e.sh).2.1]
  · simp only [Ab.alO, Ab.al]
    rw [h2, h3, (shares_c τ e.sh).2.1]

theorem eff_sh' (τ : Ab) (dst : Option Nat) (e : Ef) (k : Nat) : (τ.eff dst e).sh k = (τ.sh k || e.sh.contains k) := by
  unfold Ab.eff
  rw [put_sh, gho_sh]
  have h1 : ∀ (a : Ab) (o : Option (Nat × Arr)), (a.alO o).sh = a.sh := fun a o => by rcases o with _ | ⟨k, A⟩ <;> rfl
  have h2 : ∀ (a : Ab) (o : Option (Nat × Arr)), (a.upO o).sh = a.sh := fun a o => by rcases o with _ | ⟨k, A⟩ <;> rfl
  have h3 : ∀ (a : Ab) (o : Option Nat), (a.kiO o).sh = a.sh := fun a o => by rcases o with _ | k <;> rfl
  rw [h1, h2, h3, shares_sh]

theorem eff_c (τ : Ab) (dst : Option Nat) (e : Ef) (hk : e.ki = none) (hu : e.up = none) (k : Nat) : (τ.eff dst e).c k = match e.al with | some (j, A) => (if k = j then some A else τ.c k) | none => τ.c k := by
  unfold Ab.eff
  rw [put_c, gho_c, hk, hu]
  rcases h : e.al with _ | ⟨j, A⟩
  · simp only [Ab.alO, Ab.kiO, Ab.upO]
    rw [(shares_c τ e.sh).1]
  · simp only [Ab.alO, Ab.kiO, Ab.upO, Ab.al]
    rw [(shares_c τ e.sh).1]

theorem eff_f (τ : Ab) (dst : Option Nat) (e : Ef) (hd : ∀ d, dst = some d → d < 1000000) (k : Nat) (h : lkG (1000000 + k) e.gh = none) : (τ.eff dst e).f k = τ.f k := by
  unfold Ab.f
  rw [eff_sg, h, if_neg (fun e => by have := hd _ e; omega)]; rfl

theorem eff_put (τ : Ab) (di dj : Option Nat) (s : S) (e : Ef) (hg : GhOK e) (hdi : ∀ d, di = some d → d < 1000000) (h : ∀ d, di = some d → dj ≠ some d) : (τ.put di s).eff dj e = (τ.eff dj e).put di s := by
  cases di with
  | none => rfl
  | some d =>
    have hne : dj ≠ some d := h d rfl
    have hd6 := hdi d rfl
    refine Ab.ext' (funext fun t => ?_) (funext fun k => ?_) (funext fun k => ?_) (funext fun k => ?_)
    · rw [eff_sg, put_s, put_s, eff_sg]
      by_cases ht : d = t
      · subst ht
        simp [hne, lkG_none hg hd6]
      · simp [ht]
    · rw [put_c]
      have hsh : ∀ ks, ((τ.put (some d) s).shares ks) = (τ.shares ks).put (some d) s := fun ks => by
        unfold Ab.shares
        induction ks generalizing τ with
        | nil => rfl
        | cons j ks ih => exact ih (τ.share j)
      unfold Ab.eff
      rw [put_c, put_c, gho_c, gho_c, hsh]
      rcases e.ki with _ | _ <;> rcases e.up with _ | ⟨_, _⟩ <;> rcases e.al with _ | ⟨_, _⟩ <;> rfl
    · rw [eff_sh', put_sh, put_sh, eff_sh']
    · rw [eff_us, put_us, put_us, eff_us]

/-! ### What an operation refers to -/
def Refs (o : Oper) (τ : Ab) (k : Nat) : Prop := ∃ x ∈ o.op.operands, refS (τ.val x) k
/-- The keys that an operation with destination d may bring into use. -/
def keyOf (d k : Nat) : Prop := k = d ∨ (200000 + 100 * d ≤ k ∧ k < 200000 + 100 * d + 100)
theorem keyOf_apart {d d' k : Nat} (h : d < 100000) (h' : d' < 100000) (hne : d ≠ d') (h1 : keyOf d k) (h2 : keyOf d' k) : False := by
  unfold keyOf at h1 h2
  omega

theorem constS_ref (v : Value) (k : Nat) : ¬ refS (constS v) k := by
  unfold constS
  split <;> exact fun h => h

theorem val_ref {τ : Ab} (hwf : WF τ) {x : Operand} {k : Nat} (h : refS (τ.val x) k) : τ.us k = true := by
  cases x with
  | tmp t => exact hwf t k h
  | const v => exact (constS_ref v k h).elim
  | global g => exact h.elim
  | func f => exact h.elim

theorem TEff.gn {o : Oper} {τ : Ab} {e : Ef} (h : TEff P T o τ e) : e.gh = [] ∧ e.nu = [] := by cases h <;> exact ⟨rfl, rfl⟩
theorem WEff.gn {o : Oper} {τ : Ab} {e : Ef} (h : WEff P T R o τ e) : e.gh = [] ∧ e.nu = [] := by cases h <;> exact ⟨rfl, rfl⟩

theorem ToD.keys {τ : Ab} {s : S} {x : D} {ks : List Nat} (h : ToD τ s x ks) : ∀ k ∈ ks, refS s k := by
  cases h with
  | d => simp
  | nil => simp
  | av k m A hA => intro j hj; simp at hj; subst hj; rfl
theorem ToDs.keys {τ : Ab} {ss : List S} {xs : List D} {ks : List Nat} (h : ToDs τ ss xs ks) : ∀ k ∈ ks, ∃ s ∈ ss, refS s k := by
  induction h with
  | nil => simp
  | cons h t ih =>
    intro k hk
    rcases List.mem_append.1 hk with h1 | h1
    · exact ⟨_, List.mem_cons_self, h.keys k h1⟩
    · obtain ⟨s, hs, h2⟩ := ih k h1; exact ⟨s, List.mem_cons_of_mem _ hs, h2⟩
theorem ToA.keys {τ : Ab} {s : S} {x : A1} {ks : List Nat} (h : ToA τ s x ks) : ∀ k ∈ ks, refS s k := by
  cases h with
  | d h => exact h.keys
  | fn f => simp
theorem ToAs.keys {τ : Ab} {ss : List S} {xs : List A1} {ks : List Nat} (h : ToAs τ ss xs ks) : ∀ k ∈ ks, ∃ s ∈ ss, refS s k := by
  induction h with
  | nil => simp
  | cons h t ih =>
    intro k hk
    rcases List.mem_append.1 hk with h1 | h1
    · exact ⟨_, List.mem_cons_self, h.keys k h1⟩
    · obtain ⟨s, hs, h2⟩ := ih k h1; exact ⟨s, List.mem_cons_of_mem _ hs, h2⟩
theorem TEff.shk {o : Oper} {τ : Ab} {e : Ef} (h : TEff P T o τ e) : ∀ k ∈ e.sh, Refs o τ k := by
  cases h with
  | box t x y ks d ho hd hu hx hw => exact fun k hk => ⟨x, by rw [ho]; simp [Op.operands], hx.keys k hk⟩
  | build t parts Fs ds ks ho hT hx hc hi =>
    intro k hk
    obtain ⟨s, hs, h1⟩ := hx.keys k hk
    obtain ⟨p, hp, rfl⟩ := List.mem_map.1 hs
    exact ⟨p.2, by rw [ho]; simp [Op.operands]; exact ⟨p.1, Array.mem_def.2 hp⟩, h1⟩
  | buildSlice t len parts e ety ds ks d ho hd hu hT hE hx hc hi hw hl =>
    intro k hk
    obtain ⟨s, hs, h1⟩ := hx.keys k hk
    obtain ⟨p, hp, rfl⟩ := List.mem_map.1 hs
    exact ⟨p.2, by rw [ho]; simp [Op.operands]; exact ⟨p.1, Array.mem_def.2 hp⟩, h1⟩
  | call fx args tys f as ks r s al ho hf hx hc hr =>
    intro k hk
    obtain ⟨s, hs, h1⟩ := hx.keys k hk
    obtain ⟨p, hp, rfl⟩ := List.mem_map.1 hs
    exact ⟨p, by rw [ho]; simp [Op.operands, Call.operands]; exact .inr (Array.mem_def.2 hp), h1⟩
  | _ => intro k hk; simp at hk
theorem ToLs.keys {τ : Ab} {k : Nat} {A : Option Arr} {ss : List S} {xs : List A2} {ks : List Nat} (h : ToLs τ k A ss xs ks) : ∀ j ∈ ks, ∃ s ∈ ss, refS s j := by
  induction h with
  | nil => simp
  | cons h t ih =>
    intro j hj
    rcases List.mem_append.1 hj with h1 | h1
    · cases h with
      | d h => exact ⟨_, List.mem_cons_self, h.keys j h1⟩
      | fn f => simp at h1
      | lv m A0 hA h => simp at h1
      | lp A0 hA => simp at h1
    · obtain ⟨s, hs, h2⟩ := ih j h1; exact ⟨s, List.mem_cons_of_mem _ hs, h2⟩
theorem ResE.fresh {τ : Ab} {dst : Option Nat} {r : Res} {s : S} {al : Option (Nat × Arr)} (h : ResE τ dst r s al) : ∀ k A, al = some (k, A) → dst = some k ∧ τ.us k = false := by
  intro k B e
  cases h with
  | d x => cases e
  | unit => cases e
  | own A d h1 h2 => cases e; exact ⟨h1, h2⟩
  | ptr A d h1 h2 => cases e; exact ⟨h1, h2⟩
  | tupd x rest => cases e
  | tupo A rest d h1 h2 => cases e; exact ⟨h1, h2⟩
theorem lent_ref {o : Oper} {τ : Ab} {fx : Operand} {args : Array Operand} {tys : Array TypeId} {k m : Nat} (ho : o.op = .call { callee := .value fx, args, argTypes := tys }) (hk : ∃ p ∈ args.toList, τ.val p = .av k m ∨ τ.val p = .ae k 0) : Refs o τ k := by
  obtain ⟨p, hp, h⟩ := hk
  refine ⟨p, args_mem ho p hp, ?_⟩
  rcases h with h | h <;> rw [h] <;> rfl
theorem WEff.touch {o : Oper} {τ : Ab} {e : Ef} (h : WEff P T R o τ e) : (∀ k, e.ki = some k → Refs o τ k) ∧ (∀ k A, e.up = some (k, A) → Refs o τ k) ∧ (∀ k ∈ e.sh, Refs o τ k) ∧ ∀ k A, e.al = some (k, A) → o.dst = some k ∧ τ.us k = false := by
  cases h with
  | storeA t x y k i A z ks ty ho hT hx hA hy hsh hi hz hw =>
    refine ⟨fun k h => (by cases h), fun j B h => ?_, fun j hj => ⟨y, by rw [ho]; simp [Op.operands], hy.keys j hj⟩, fun k A h => (by cases h)⟩
    cases h
    exact ⟨x, by rw [ho]; simp [Op.operands], by rw [hx]; rfl⟩
  | storeF t x y k i f A fs z ks ty ho hT hx hA hy hsh hi hf hz hw =>
    refine ⟨fun k h => (by cases h), fun j B h => ?_, fun j hj => ⟨y, by rw [ho]; simp [Op.operands], hy.keys j hj⟩, fun k A h => (by cases h)⟩
    cases h
    exact ⟨x, by rw [ho]; simp [Op.operands], by rw [hx]; rfl⟩
  | appendA t x y e ety k m d A ys ho hd hus hds hT hE hx hA hsh he hsz hy hw hl =>
    refine ⟨fun j h => ?_, fun j B h => (by cases h), fun j hj => (by simp at hj), fun j B h => ?_⟩
    · cases h; exact ⟨x, by rw [ho]; simp [Op.operands, Call.operands], by rw [hx]; rfl⟩
    · cases h; exact ⟨hd, hus⟩
  | appendN t x y e ety d ys ho hd hus hT hE hp hx hy hw hl =>
    refine ⟨fun j h => (by cases h), fun j B h => (by cases h), fun j hj => (by simp at hj), fun j B h => ?_⟩
    cases h; exact ⟨hd, hus⟩
  | lcall fx args tys f as ks k A r xs s al ho hfx hL hx hk hA hsh hc hr =>
    refine ⟨fun j h => (by cases h), fun j B h => ?_, fun j hj => ?_, hr.fresh⟩
    · cases h; exact lent_ref ho hk
    · obtain ⟨s0, hs0, h1⟩ := hx.keys j hj
      obtain ⟨p, hp, rfl⟩ := List.mem_map.1 hs0
      exact ⟨p, args_mem ho p hp, h1⟩
theorem WEff.locl2 {o : Oper} {τ τ' : Ab} {e : Ef} (h : WEff P T R o τ e) (hv : ∀ x ∈ o.op.operands, τ'.val x = τ.val x) (hc : ∀ k, Refs o τ k → τ'.c k = τ.c k ∧ τ'.sh k = τ.sh k)
    (hu : ∀ d, o.dst = some d → τ.us d = false → τ'.us d = false ∧ (τ.sh d = false → τ'.sh d = false)) : WEff P T R o τ' e := by
  cases h with
  | storeA t x y k i A z ks ty ho hT hx hA hy hsh hi hz hw =>
    have hmx : x ∈ o.op.operands := by rw [ho]; simp [Op.operands]
    have hmy : y ∈ o.op.operands := by rw [ho]; simp [Op.operands]
    have hk := hc k ⟨x, hmx, by rw [hx]; rfl⟩
    refine .storeA t x y k i A z ks ty ho hT (by rw [hv x hmx]; exact hx) (by rw [hk.1]; exact hA) (by rw [hv y hmy]; exact hy.locl fun j hj => (hc j ⟨y, hmy, hj⟩).1) ?_ hi hz hw
    rw [shares_sh] at hsh ⊢; rw [hk.2]; exact hsh
  | storeF t x y k i f A fs z ks ty ho hT hx hA hy hsh hi hf hz hw =>
    have hmx : x ∈ o.op.operands := by rw [ho]; simp [Op.operands]
    have hmy : y ∈ o.op.operands := by rw [ho]; simp [Op.operands]
    have hk := hc k ⟨x, hmx, by rw [hx]; rfl⟩
    refine .storeF t x y k i f A fs z ks ty ho hT (by rw [hv x hmx]; exact hx) (by rw [hk.1]; exact hA) (by rw [hv y hmy]; exact hy.locl fun j hj => (hc j ⟨y, hmy, hj⟩).1) ?_ hi hf hz hw
    rw [shares_sh] at hsh ⊢; rw [hk.2]; exact hsh
  | appendA t x y e ety k m d A ys ho hd hus hds hT hE hx hA hsh he hsz hy hw hl =>
    have hmx : x ∈ o.op.operands := by rw [ho]; simp [Op.operands, Call.operands]
    have hmy : y ∈ o.op.operands := by rw [ho]; simp [Op.operands, Call.operands]
    have hk := hc k ⟨x, hmx, by rw [hx]; rfl⟩
    refine .appendA t x y e ety k m d A ys ho hd (hu d hd hus).1 ((hu d hd hus).2 hds) hT hE (by rw [hv x hmx]; exact hx) (by rw [hk.1]; exact hA) (by rw [hk.2]; exact hsh) he hsz ?_ hw hl
    rw [hv y hmy]
    exact hy.locl fun j hj => (hc j ⟨y, hmy, hj⟩).1
  | appendN t x y e ety d ys ho hd hus hT hE hp hx hy hw hl =>
    have hmx : x ∈ o.op.operands := by rw [ho]; simp [Op.operands, Call.operands]
    have hmy : y ∈ o.op.operands := by rw [ho]; simp [Op.operands, Call.operands]
    refine .appendN t x y e ety d ys ho hd (hu d hd hus).1 hT hE hp (by rw [hv x hmx]; exact hx) ?_ hw hl
    rw [hv y hmy]
    exact hy.locl fun j hj => (hc j ⟨y, hmy, hj⟩).1
  | lcall fx args tys f as ks k A r xs s al ho hfx hL hx hk hA hsh hct hr =>
    have hm := args_mem ho
    have e : args.toList.map τ'.val = args.toList.map τ.val := List.map_congr_left fun p hp => hv p (hm p hp)
    have hck := hc k (lent_ref ho hk)
    refine .lcall fx args tys f as ks k A r xs s al ho hfx hL ?_ ?_ (by rw [hck.1]; exact hA) ?_ hct (hr.usd fun d hd h => (hu d hd h).1)
    · rw [e]
      exact hx.locl fun s hs j hj => by obtain ⟨p, hp, rfl⟩ := List.mem_map.1 hs; exact (hc j ⟨p, hm p hp, hj⟩).1
    · obtain ⟨p, hp, h1⟩ := hk
      exact ⟨p, hp, by rw [hv p (hm p hp)]; exact h1⟩
    · rw [shares_sh] at hsh ⊢; rw [hck.2]; exact hsh
def Touch (e : Ef) (k : Nat) : Prop := e.ki = some k ∨ (∃ A, e.up = some (k, A)) ∨ ∃ A, e.al = some (k, A)
theorem eff_cg (τ : Ab) (dst : Option Nat) (e : Ef) (k : Nat) : (τ.eff dst e).c k = (match e.al with
    | some (j, A) => if k = j then some A else (match e.up with
      | some (i, B) => if k = i then some B else (match e.ki with | some h => if k = h then none else τ.c k | none => τ.c k)
      | none => (match e.ki with | some h => if k = h then none else τ.c k | none => τ.c k))
    | none => (match e.up with
      | some (i, B) => if k = i then some B else (match e.ki with | some h => if k = h then none else τ.c k | none => τ.c k)
      | none => (match e.ki with | some h => if k = h then none else τ.c k | none => τ.c k))) := by
  unfold Ab.eff
  rw [put_c, gho_c]
  rcases e.al with _ | ⟨j, A⟩ <;> rcases e.up with _ | ⟨i, B⟩ <;> rcases e.ki with _ | h <;> simp only [Ab.alO, Ab.upO, Ab.kiO, Ab.al, Ab.up, Ab.kill, (shares_c τ e.sh).1]
theorem eff_c_un {τ : Ab} {dst : Option Nat} {e : Ef} {k : Nat} (h : ¬ Touch e k) : (τ.eff dst e).c k = τ.c k := by
  rw [eff_cg]
  unfold Touch at h
  rcases h1 : e.al with _ | ⟨j, A⟩ <;> rcases h2 : e.up with _ | ⟨i, B⟩ <;> rcases h3 : e.ki with _ | g <;> simp only [h1, h2, h3] at h ⊢ <;> (repeat' split) <;> simp_all
theorem eff_c_touch {τ τ' : Ab} {d d' : Option Nat} {e : Ef} {k : Nat} (h : Touch e k) : (τ.eff d e).c k = (τ'.eff d' e).c k := by
  rw [eff_cg, eff_cg]
  unfold Touch at h
  rcases h1 : e.al with _ | ⟨j, A⟩ <;> rcases h2 : e.up with _ | ⟨i, B⟩ <;> rcases h3 : e.ki with _ | g <;> simp only [h1, h2, h3] at h ⊢ <;> (repeat' split) <;> simp_all
  all_goals (exfalso; omega)


/-! ### Steps that are known by what they do -/
/-- τ' shows an operation the same as τ. -/
structure Like (wild : Bool) (o : Oper) (τ τ' : Ab) : Prop where
  v : ∀ x ∈ o.op.operands, τ'.val x = τ.val x
  c : ∀ k, Refs o τ k → τ'.c k = τ.c k ∧ τ'.f k = τ.f k
  sh : wild = true → ∀ k, Refs o τ k → τ'.sh k = τ.sh k
  u : ∀ d, o.dst = some d → ∀ k, keyOf d k → τ.us k = false → τ'.us k = false ∧ (wild = true → τ.sh k = false → τ'.sh k = false)
theorem Like.refs {wild : Bool} {o : Oper} {τ τ' : Ab} (h : Like wild o τ τ') (k : Nat) : Refs o τ' k ↔ Refs o τ k := by
  constructor
  · rintro ⟨x, hx, hk⟩; exact ⟨x, hx, by rw [← h.v x hx]; exact hk⟩
  · rintro ⟨x, hx, hk⟩; exact ⟨x, hx, by rw [h.v x hx]; exact hk⟩
theorem Like.trans {wild : Bool} {o : Oper} {τ τ' τ'' : Ab} (h : Like wild o τ τ') (k : Like wild o τ' τ'') : Like wild o τ τ'' := by
  refine ⟨fun x hx => (k.v x hx).trans (h.v x hx), fun j hj => ?_, fun hw j hj => ?_, fun d hd j hj hu => ?_⟩
  · have h1 := h.c j hj
    have h2 := k.c j ((h.refs j).2 hj)
    exact ⟨h2.1.trans h1.1, h2.2.trans h1.2⟩
  · exact (k.sh hw j ((h.refs j).2 hj)).trans (h.sh hw j hj)
  · have h1 := h.u d hd j hj hu
    have h2 := k.u d hd j hj h1.1
    exact ⟨h2.1, fun hw hs => h2.2 hw (h1.2 hw hs)⟩
theorem Like.tame {wild : Bool} {o : Oper} {τ τ' : Ab} (h : Like wild o τ τ') : Like false o τ τ' := ⟨h.v, h.c, fun e => (by cases e), fun d hd k hk hu => ⟨(h.u d hd k hk hu).1, fun e => (by cases e)⟩⟩
/-- What can be read from the operands. -/
def ReachK (o : Oper) (τ : Ab) (k : Nat) : Prop := Refs o τ k ∨ ∃ j B, Refs o τ j ∧ τ.f j = some B ∧ ∃ d ∈ fl B.xs, refD d k
theorem ReachK.used {o : Oper} {τ : Ab} (hwf : WF τ) {k : Nat} (h : ReachK o τ k) : τ.us k = true := by
  rcases h with ⟨x, _, hx⟩ | ⟨j, B, _, hf, hd⟩
  · exact val_ref hwf hx
  · refine hwf (1000000 + j) k ?_
    unfold Ab.f at hf
    split at hf
    · rename_i B' hs; cases hf; rw [hs]; exact hd
    · cases hf

structure Seen (P : Program) (wild : Bool) (o : Oper) (τ : Ab) (e : Ef) : Prop where
  tame : wild = false → e.ki = none ∧ e.up = none ∧ ∀ p ∈ e.gh, ∃ k ∈ e.nu, p.1 = 1000000 + k
  ki : ∀ k, e.ki = some k → Refs o τ k
  up : ∀ k A, e.up = some (k, A) → Refs o τ k
  sh : ∀ k ∈ e.sh, Refs o τ k
  al : ∀ k A, e.al = some (k, A) → o.dst = some k ∧ τ.us k = false
  nu : ∀ k ∈ e.nu, τ.us k = false ∧ ∃ d, o.dst = some d ∧ keyOf d k
  gh : ∀ p ∈ e.gh, ∃ k, p.1 = 1000000 + k ∧ (Refs o τ k ∨ k ∈ e.nu)
  wf : ∀ k, (refS e.s k ∨ ∃ p ∈ e.gh, refS p.2 k) → ReachK o τ k ∨ k ∈ e.nu ∨ ∃ A, e.al = some (k, A)
  run : ∀ τ0, Like wild o τ τ0 → ∀ {X : Env} {w0 : World} {M0 : Mem} {n : Nat} {ac : Act} {w : World} {M : Mem} {γ : Nat → Value}, (∀ d, o.dst = some d → d < n) → SimW X w0 M0 n τ0 ac w M γ →
    ∀ Q : Exit → Act → World → Prop, o.wp P ac w (fun ac' w' => Sim X w0 M0 n (τ0.eff o.dst e) ac' w') Q

theorem ReachK.like {wild : Bool} {o : Oper} {τ τ' : Ab} (h : Like wild o τ τ') {k : Nat} (hr : ReachK o τ k) : ReachK o τ' k := by
  rcases hr with hr | ⟨j, B, h1, h2, h3⟩
  · exact .inl ((h.refs k).2 hr)
  · exact .inr ⟨j, B, (h.refs j).2 h1, by rw [(h.c j h1).2]; exact h2, h3⟩

theorem Seen.like {wild : Bool} {o : Oper} {τ τ' : Ab} {e : Ef} (h : Seen P wild o τ e) (hl : Like wild o τ τ') : Seen P wild o τ' e := by
  refine ⟨h.tame, fun k hk => (hl.refs k).2 (h.ki k hk), fun k A hk => (hl.refs k).2 (h.up k A hk), fun k hk => (hl.refs k).2 (h.sh k hk), fun k A hk => ?_, fun k hk => ?_, fun p hp => ?_, fun k hk => ?_, fun τ0 hl2 => h.run τ0 (hl.trans hl2)⟩
  · obtain ⟨h1, h2⟩ := h.al k A hk
    exact ⟨h1, (hl.u k h1 k (.inl rfl) h2).1⟩
  · obtain ⟨h1, d, hd, hkd⟩ := h.nu k hk
    exact ⟨(hl.u d hd k hkd h1).1, d, hd, hkd⟩
  · obtain ⟨k, h1, h2⟩ := h.gh p hp
    exact ⟨k, h1, h2.imp (hl.refs k).2 id⟩
  · exact (h.wf k hk).imp (fun h => h.like hl) id

def Tm (P : Program) (T : Tys) (R : List Nat) (o : Oper) (τ : Ab) (e : Ef) : Prop := TEff P T o τ e ∨ (cls R o.op ≠ 0 ∧ Seen P false o τ e)
def Wm (P : Program) (T : Tys) (R : List Nat) (o : Oper) (τ : Ab) (e : Ef) : Prop := WEff P T R o τ e ∨ (cls R o.op = 2 ∧ Seen P true o τ e)

theorem Tm.plain {o : Oper} {τ : Ab} {e : Ef} (h : Tm P T R o τ e) (hc : cls R o.op = 0) : ∃ s, e = { s } ∧ PEff P T o.op τ.val s := by
  rcases h with h | ⟨h1, _⟩
  · exact h.plain hc
  · exact absurd hc h1
theorem Wm.cls2 {o : Oper} {τ : Ab} {e : Ef} (h : Wm P T R o τ e) : cls R o.op = 2 := by
  rcases h with h | ⟨h1, _⟩
  · exact h.cls2
  · exact h1
theorem Tm.like {o : Oper} {τ τ' : Ab} {e : Ef} (h : Tm P T R o τ e) (hl : Like false o τ τ') : Tm P T R o τ' e := by
  rcases h with h | ⟨h1, h2⟩
  · exact .inl (h.locl ⟨hl.v, fun x hx k hk => (hl.c k ⟨x, hx, hk⟩).1, fun d hd hu => (hl.u d hd d (.inl rfl) hu).1⟩)
  · exact .inr ⟨h1, h2.like hl⟩
theorem Wm.like {o : Oper} {τ τ' : Ab} {e : Ef} (h : Wm P T R o τ e) (hl : Like true o τ τ') : Wm P T R o τ' e := by
  rcases h with h | ⟨h1, h2⟩
  · exact .inl (h.locl2 hl.v (fun k hk => ⟨(hl.c k hk).1, hl.sh rfl k hk⟩) fun d hd hu => ⟨(hl.u d hd d (.inl rfl) hu).1, fun hs => (hl.u d hd d (.inl rfl) hu).2 rfl hs⟩)
  · exact .inr ⟨h1, h2.like hl⟩

/-! ### A step of a region -/
def Wanted (ops : Array Oper) (τ : Ab) (o : Oper) : Prop :=
  o.guard = none ∨ ∃ j want t, o.guard = some (j, want) ∧ (ops[j]?).bind (·.dst) = some t ∧ τ.s t = .d (.sc (.bool want))

inductive GEff (P : Program) (T : Tys) (R : List Nat) (ops : Array Oper) (o : Oper) (τ : Ab) : Ef → Prop
  | skip (j t : Nat) (want : Bool) (hg : o.guard = some (j, want)) (ht : (ops[j]?).bind (·.dst) = some t) (hs : τ.s t = .un ∨ τ.s t = .d (.sc (.bool (!want)))) : GEff P T R ops o τ { s := .un }
  | tame (e : Ef) (hg : Wanted ops τ o) (h : Tm P T R o τ e) : GEff P T R ops o τ e
  | wild (e : Ef) (hg : Wanted ops τ o) (h : Wm P T R o τ e) : GEff P T R ops o τ e

variable {ops : Array Oper}

theorem mem_looks {o : Oper} {t : Nat} (h : Operand.tmp t ∈ o.op.operands) : t ∈ o.looksAt ops :=
  List.mem_append_left _ (List.mem_filterMap.2 ⟨.tmp t, Array.mem_def.1 h, rfl⟩)
theorem guard_looks {o : Oper} {j t : Nat} {want : Bool} (hg : o.guard = some (j, want)) (ht : (ops[j]?).bind (·.dst) = some t) : t ∈ o.looksAt ops := by
  simp [Oper.looksAt, hg, ht]

/-- The slots of an operation are no ghost slots. -/
def Near (ops : Array Oper) (o : Oper) : Prop := (∀ t ∈ o.looksAt ops, t < 1000000) ∧ ∀ d, o.dst = some d → d < 100000

theorem val_same {o : Oper} {τ τ' : Ab} (hs : ∀ t ∈ o.looksAt ops, τ'.s t = τ.s t) : ∀ x ∈ o.op.operands, τ'.val x = τ.val x := by
  intro x hx
  cases x with
  | tmp t => exact hs t (mem_looks hx)
  | _ => rfl

theorem Wanted.same {o : Oper} {τ τ' : Ab} (hs : ∀ t ∈ o.looksAt ops, τ'.s t = τ.s t) (hw : Wanted ops τ o) : Wanted ops τ' o := by
  rcases hw with hw | ⟨j, want, t, h1, h2, h3⟩
  · exact .inl hw
  · exact .inr ⟨j, want, t, h1, h2, by rw [hs t (guard_looks h1 h2)]; exact h3⟩

theorem GEff.move {o : Oper} {τ τ' : Ab} {e : Ef} (h : GEff P T R ops o τ e) (hs : ∀ t ∈ o.looksAt ops, τ'.s t = τ.s t) (hl : Like true o τ τ') : GEff P T R ops o τ' e := by
  cases h with
  | skip j t want hg ht hst => exact .skip j t want hg ht (by rw [hs t (guard_looks hg ht)]; exact hst)
  | tame e hg h => exact .tame _ (hg.same hs) (h.like hl.tame)
  | wild e hg h => exact .wild _ (hg.same hs) (h.like hl)

/-- What a step touches. -/
structure Marks (o : Oper) (τ : Ab) (e : Ef) : Prop where
  ki : ∀ k, e.ki = some k → Refs o τ k
  up : ∀ k A, e.up = some (k, A) → Refs o τ k
  sh : ∀ k ∈ e.sh, Refs o τ k
  al : ∀ k A, e.al = some (k, A) → o.dst = some k ∧ τ.us k = false
  nu : ∀ k ∈ e.nu, τ.us k = false ∧ ∃ d, o.dst = some d ∧ keyOf d k
  gh : ∀ p ∈ e.gh, ∃ k, p.1 = 1000000 + k ∧ (Refs o τ k ∨ k ∈ e.nu)
theorem TEff.marks {o : Oper} {τ : Ab} {e : Ef} (h : TEff P T o τ e) : Marks o τ e := by
  obtain ⟨h1, h2, h3⟩ := h.shape
  obtain ⟨g1, g2⟩ := h.gn
  exact ⟨fun k hk => (by rw [h1] at hk; cases hk), fun k A hk => (by rw [h2] at hk; cases hk), h.shk, h3, fun k hk => (by rw [g2] at hk; simp at hk), fun p hp => (by rw [g1] at hp; simp at hp)⟩
theorem WEff.marks {o : Oper} {τ : Ab} {e : Ef} (h : WEff P T R o τ e) : Marks o τ e := by
  obtain ⟨h1, h2, h3, h4⟩ := h.touch
  obtain ⟨g1, g2⟩ := h.gn
  exact ⟨h1, h2, h3, h4, fun k hk => (by rw [g2] at hk; simp at hk), fun p hp => (by rw [g1] at hp; simp at hp)⟩
theorem Seen.marks {wild : Bool} {o : Oper} {τ : Ab} {e : Ef} (h : Seen P wild o τ e) : Marks o τ e := ⟨h.ki, h.up, h.sh, h.al, h.nu, h.gh⟩
theorem Tm.marks {o : Oper} {τ : Ab} {e : Ef} (h : Tm P T R o τ e) : Marks o τ e := h.elim (fun h => h.marks) (fun h => h.2.marks)
theorem Wm.marks {o : Oper} {τ : Ab} {e : Ef} (h : Wm P T R o τ e) : Marks o τ e := h.elim (fun h => h.marks) (fun h => h.2.marks)
theorem GEff.marks {o : Oper} {τ : Ab} {e : Ef} (h : GEff P T R ops o τ e) : Marks o τ e := by
  cases h with
  | skip => exact ⟨fun k h => (by cases h), fun k A h => (by cases h), fun k h => (by simp at h), fun k A h => (by cases h), fun k h => (by simp at h), fun p h => (by simp at h)⟩
  | tame _ _ h => exact h.marks
  | wild _ _ h => exact h.marks
theorem Marks.far {o : Oper} {τ : Ab} {e : Ef} (h : Marks o τ e) : GhOK e := fun p hp => by
  obtain ⟨k, h1, _⟩ := h.gh p hp
  omega
theorem Marks.slot {o : Oper} {τ : Ab} {e : Ef} (h : Marks o τ e) {t : Nat} (ht : t < 1000000) (hd : o.dst ≠ some t) : (τ.eff o.dst e).s t = τ.s t := by rw [eff_s _ _ _ h.far t ht, if_neg hd]
theorem lkG_mem {l : List (Nat × S)} {t : Nat} {s : S} (h : lkG t l = some s) : (t, s) ∈ l := by
  induction l with
  | nil => cases h
  | cons p r ih =>
    obtain ⟨j, s'⟩ := p
    simp only [lkG] at h
    split at h
    · rename_i e; cases h; rw [e]; exact List.mem_cons_self
    · exact List.mem_cons_of_mem _ (ih h)
theorem Marks.fsame {o : Oper} {τ : Ab} {e : Ef} (h : Marks o τ e) (hn : Near ops o) {k : Nat} (hk : ¬ Refs o τ k) (hu : τ.us k = true) : (τ.eff o.dst e).f k = τ.f k := by
  refine eff_f _ _ _ (fun d hd => Nat.lt_trans (hn.2 d hd) (by decide)) k ?_
  cases hl : lkG (1000000 + k) e.gh with
  | none => rfl
  | some s =>
    obtain ⟨j, h1, h2⟩ := h.gh _ (lkG_mem hl)
    have e1 : j = k := by simp only at h1; omega
    subst e1
    rcases h2 with h2 | h2
    · exact absurd h2 hk
    · rw [(h.nu j h2).1] at hu; cases hu
theorem us_mono (τ : Ab) (dst : Option Nat) (e : Ef) {k : Nat} (h : (τ.eff dst e).us k = false) : τ.us k = false := by
  rw [eff_us] at h
  rcases hal : e.al with _ | ⟨d', A⟩ <;> rw [hal] at h <;> simp only [Bool.or_eq_false_iff] at h
  · exact h.2
  · obtain ⟨_, h⟩ := h
    split at h
    · cases h
    · exact h
theorem Marks.unus {o o' : Oper} {τ : Ab} {e : Ef} (h : Marks o τ e) (hn : Near ops o) (hn' : Near ops o') (hne : ∀ d, o.dst = some d → o'.dst ≠ some d) {d k : Nat} (hd : o'.dst = some d) (hk : keyOf d k) (hu : τ.us k = false) : (τ.eff o.dst e).us k = false := by
  rw [eff_us]
  have h1 : e.nu.contains k = false := by
    cases hb : e.nu.contains k with
    | false => rfl
    | true =>
      obtain ⟨_, d', hd', hk'⟩ := h.nu k (by simpa using hb)
      exact (keyOf_apart (hn.2 d' hd') (hn'.2 d hd) (fun e => hne d' hd' (by rw [e]; exact hd)) hk' hk).elim
  rw [h1, Bool.false_or]
  rcases hal : e.al with _ | ⟨d', A⟩
  · exact hu
  · simp only
    have h2 := (h.al d' A hal).1
    rw [if_neg (fun e => keyOf_apart (hn.2 d' h2) (hn'.2 d hd) (fun e => hne d' h2 (by rw [e]; exact hd)) (.inl e) hk)]
    exact hu

theorem eff_wf {o : Oper} {τ : Ab} {e : Ef} (hn : Near ops o) (hwf : WF τ) (h : GEff P T R ops o τ e) : WF (τ.eff o.dst e) := by
  have hold : ∀ {k}, τ.us k = true → (τ.eff o.dst e).us k = true := fun {k} hu => by
    cases hb : (τ.eff o.dst e).us k with
    | true => rfl
    | false => rw [us_mono _ _ _ hb] at hu; cases hu
  have hnew : ∀ {k}, (∃ A, e.al = some (k, A)) → (τ.eff o.dst e).us k = true := fun {k} ⟨A, hA⟩ => by rw [eff_us, hA]; simp
  have hnu : ∀ {k}, k ∈ e.nu → (τ.eff o.dst e).us k = true := fun {k} hk => by
    rw [eff_us, show e.nu.contains k = true by simpa using hk]; rfl
  have key : ∀ k, (refS e.s k ∨ ∃ p ∈ e.gh, refS p.2 k) → (τ.eff o.dst e).us k = true := by
    intro k hk
    have sem : ∀ {wild : Bool}, Seen P wild o τ e → (τ.eff o.dst e).us k = true := fun h => by
      rcases h.wf k hk with h1 | h1 | h1
      · exact hold (h1.used hwf)
      · exact hnu h1
      · exact hnew h1
    cases h with
    | skip => exact hk.elim (fun h => h.elim) (fun ⟨p, hp, _⟩ => by simp at hp)
    | tame e hg h =>
      rcases h with h | ⟨_, h⟩
      · rcases hk with hk | ⟨p, hp, _⟩
        · rcases h.refs k hk with ⟨x, _, hx⟩ | hA
          · exact hold (val_ref hwf hx)
          · exact hnew hA
        · rw [h.gn.1] at hp; simp at hp
      · exact sem h
    | wild e hg h =>
      rcases h with h | ⟨_, h⟩
      · rcases hk with hk | ⟨p, hp, _⟩
        · exact hnew (h.refs k hk)
        · rw [h.gn.1] at hp; simp at hp
      · exact sem h
  intro t k hk
  rw [eff_sg] at hk
  split at hk
  · exact key k (.inl hk)
  · cases hl : lkG t e.gh with
    | none => rw [hl] at hk; exact hold (hwf t k hk)
    | some s => rw [hl] at hk; exact key k (.inr ⟨_, lkG_mem hl, hk⟩)

theorem plain_back {oj : Oper} {τ : Ab} {di : Option Nat} {s : S} {ej : Ef} (hdi : ∀ d, di = some d → d < 1000000) (h1 : ∀ d, di = some d → d ∉ oj.looksAt ops) (hj : GEff P T R ops oj (τ.put di s) ej) : GEff P T R ops oj τ ej := by
  have hs : ∀ t ∈ oj.looksAt ops, τ.s t = (τ.put di s).s t := fun t ht => by rw [put_s, if_neg (fun e => h1 t e ht)]
  exact hj.move hs ⟨val_same hs, fun k _ => ⟨by rw [put_c], by rw [put_f τ di s hdi]⟩, fun _ k _ => by rw [put_sh], fun d _ k _ hu => by rw [put_us] at hu; exact ⟨hu, fun _ hs => by rw [put_sh] at hs; exact hs⟩⟩

theorem plain_on {oi oj : Oper} {τ : Ab} {ej : Ef} {s : S} (hm : Marks oj τ ej) (hni : Near ops oi) (h3 : ∀ d, oj.dst = some d → d ∉ oi.looksAt ops) (hi : GEff P T R ops oi τ { s })
    (hp : cls R oi.op = 0 ∨ ∃ j want t, oi.guard = some (j, want) ∧ (ops[j]?).bind (·.dst) = some t ∧ (τ.s t = .un ∨ τ.s t = .d (.sc (.bool (!want)))) ∧ s = .un) :
    GEff P T R ops oi (τ.eff oj.dst ej) { s } := by
  have hs : ∀ t ∈ oi.looksAt ops, (τ.eff oj.dst ej).s t = τ.s t := fun t ht => hm.slot (hni.1 t ht) (fun e => h3 t e ht)
  rcases hp with hc | ⟨j, want, t, hg, ht, hst, rfl⟩
  · cases hi with
    | skip j t want hg ht hst => exact .skip j t want hg ht (by rw [hs t (guard_looks hg ht)]; exact hst)
    | tame e hg h =>
      obtain ⟨s', he, hp⟩ := h.plain hc
      have e2 : s' = s := by injection he with h; exact h.symm
      subst e2
      exact .tame _ (hg.same hs) (.inl (.pure _ (hp.locl (val_same hs))))
    | wild e hg h => rw [h.cls2] at hc; cases hc
  · exact .skip j t want hg ht (by rw [hs t (guard_looks hg ht)]; exact hst)

theorem gh_apart {oi oj : Oper} {τ : Ab} {ei ej : Ef} (hmi : Marks oi τ ei) (hmj : Marks oj τ ej) (hni : Near ops oi) (hnj : Near ops oj) (h2 : ∀ d, oi.dst = some d → oj.dst ≠ some d) (hwf : WF τ)
    (hd : ∀ k, Refs oi τ k → Refs oj τ k → (∃ p ∈ ei.gh, p.1 = 1000000 + k) → (∃ p ∈ ej.gh, p.1 = 1000000 + k) → False) (t : Nat) : lkG t ei.gh = none ∨ lkG t ej.gh = none := by
  cases hl : lkG t ei.gh with
  | none => exact .inl rfl
  | some s =>
    cases hl' : lkG t ej.gh with
    | none => exact .inr rfl
    | some s' =>
      exfalso
      obtain ⟨k, e1, r1⟩ := hmi.gh _ (lkG_mem hl)
      obtain ⟨k', e2, r2⟩ := hmj.gh _ (lkG_mem hl')
      simp only at e1 e2
      have : k' = k := by omega
      subst this
      have used : ∀ {o : Oper}, Refs o τ k' → τ.us k' = true := fun ⟨x, _, hx⟩ => val_ref hwf hx
      rcases r1 with r1 | r1 <;> rcases r2 with r2 | r2
      · exact hd k' r1 r2 ⟨_, lkG_mem hl, e1⟩ ⟨_, lkG_mem hl', e2⟩
      · have := used r1; rw [(hmj.nu k' r2).1] at this; cases this
      · have := used r2; rw [(hmi.nu k' r1).1] at this; cases this
      · obtain ⟨_, d, hd, hk⟩ := hmi.nu k' r1
        obtain ⟨_, d', hd', hk'⟩ := hmj.nu k' r2
        exact keyOf_apart (hni.2 d hd) (hnj.2 d' hd') (fun e => h2 d hd (by rw [e]; exact hd')) hk hk'

theorem eff_comm {oi oj : Oper} {τ : Ab} {ei ej : Ef} (hmi : Marks oi τ ei) (hmj : Marks oj τ ej) (hni : Near ops oi) (hnj : Near ops oj) (h2 : ∀ d, oi.dst = some d → oj.dst ≠ some d)
    (hg : ∀ t, lkG t ei.gh = none ∨ lkG t ej.gh = none) (nb : ∀ k, Touch ei k → ¬ Touch ej k) : (τ.eff oi.dst ei).eff oj.dst ej = (τ.eff oj.dst ej).eff oi.dst ei := by
  refine Ab.ext' (funext fun t => ?_) (funext fun k => ?_) (funext fun k => ?_) (funext fun k => ?_)
  · rw [eff_sg, eff_sg, eff_sg, eff_sg]
    by_cases a : oi.dst = some t
    · have b : oj.dst ≠ some t := h2 t a
      have := hni.2 t a
      simp [a, b, lkG_none hmj.far (Nat.lt_trans this (by decide))]
    · by_cases b : oj.dst = some t
      · have := hnj.2 t b
        simp [a, b, lkG_none hmi.far (Nat.lt_trans this (by decide))]
      · simp only [a, b, if_false]
        rcases hg t with h | h <;> rw [h] <;> simp
  · by_cases a : Touch ei k
    · rw [eff_c_un (nb k a), eff_c_touch (τ' := τ) (d' := oi.dst) a]
      exact eff_c_touch (τ := τ) (d := oi.dst) a
    · by_cases b : Touch ej k
      · rw [eff_c_un (τ := τ.eff oj.dst ej) a, eff_c_touch (τ' := τ) (d' := oj.dst) b]
      · rw [eff_c_un b, eff_c_un a, eff_c_un a, eff_c_un b]
  · rw [eff_sh', eff_sh', eff_sh', eff_sh', Bool.or_assoc, Bool.or_assoc, Bool.or_comm (ei.sh.contains k)]
  · rw [eff_us, eff_us, eff_us, eff_us]
    rcases hal : ei.al with _ | ⟨d, A⟩ <;> rcases hbl : ej.al with _ | ⟨d', B⟩ <;> simp only
    · rw [← Bool.or_assoc, ← Bool.or_assoc, Bool.or_comm (ei.nu.contains k)]
    · by_cases c2 : k = d' <;> simp [c2]
      rw [← Bool.or_assoc, ← Bool.or_assoc, Bool.or_comm (decide (k ∈ ej.nu))]
    · by_cases c1 : k = d <;> simp [c1]
      rw [← Bool.or_assoc, ← Bool.or_assoc, Bool.or_comm (decide (k ∈ ej.nu))]
    · by_cases c1 : k = d <;> by_cases c2 : k = d' <;> simp [c1, c2]
      rw [← Bool.or_assoc, ← Bool.or_assoc, Bool.or_comm (decide (k ∈ ej.nu))]

theorem Tm.tame {o : Oper} {τ : Ab} {e : Ef} (h : Tm P T R o τ e) : e.ki = none ∧ e.up = none ∧ ∀ p ∈ e.gh, ∃ k ∈ e.nu, p.1 = 1000000 + k := by
  rcases h with h | ⟨_, h⟩
  · obtain ⟨h1, h2, _⟩ := h.shape
    exact ⟨h1, h2, fun p hp => (by rw [h.gn.1] at hp; simp at hp)⟩
  · exact h.tame rfl

/-- One tame step beside another. -/
theorem Tm.beside {oi oj : Oper} {τ : Ab} {ei : Ef} (hi : Tm P T R oi τ ei) (hni : Near ops oi) (hnj : Near ops oj) (hwf : WF τ) (h1 : ∀ d, oi.dst = some d → d ∉ oj.looksAt ops) (h2 : ∀ d, oi.dst = some d → oj.dst ≠ some d) :
    Like false oj (τ.eff oi.dst ei) τ ∧ Like false oj τ (τ.eff oi.dst ei) := by
  obtain ⟨k1, u1, g1⟩ := hi.tame
  have hm := hi.marks
  have hs : ∀ t ∈ oj.looksAt ops, (τ.eff oi.dst ei).s t = τ.s t := fun t ht => hm.slot (hnj.1 t ht) (fun e => h1 t e ht)
  have hv := val_same hs
  have cf : ∀ k, Refs oj τ k → (τ.eff oi.dst ei).c k = τ.c k ∧ (τ.eff oi.dst ei).f k = τ.f k := fun k hk => by
    have hu : τ.us k = true := by obtain ⟨x, _, hx⟩ := hk; exact val_ref hwf hx
    refine ⟨?_, eff_f _ _ _ (fun d hd => Nat.lt_trans (hni.2 d hd) (by decide)) k ?_⟩
    · rw [eff_c _ _ _ k1 u1]
      rcases hal : ei.al with _ | ⟨d, A⟩
      · rfl
      · have := (hm.al d A hal).2
        have hne : k ≠ d := fun e => by rw [e, this] at hu; cases hu
        simp [hne]
    · cases hl : lkG (1000000 + k) ei.gh with
      | none => rfl
      | some s =>
        obtain ⟨j, hj, e⟩ := g1 _ (lkG_mem hl)
        simp only at e
        have : j = k := by omega
        subst this
        rw [(hm.nu j hj).1] at hu; cases hu
  refine ⟨⟨fun x hx => (hv x hx).symm, fun k hk => ?_, fun e => (by cases e), fun d hd k hk hu => ⟨us_mono _ _ _ hu, fun e => (by cases e)⟩⟩, ⟨hv, cf, fun e => (by cases e), fun d hd k hk hu => ⟨hm.unus hni hnj h2 hd hk hu, fun e => (by cases e)⟩⟩⟩
  have hk' : Refs oj τ k := by obtain ⟨x, hx, h⟩ := hk; exact ⟨x, hx, by rw [← hv x hx]; exact h⟩
  obtain ⟨a, b⟩ := cf k hk'
  exact ⟨a.symm, b.symm⟩

theorem commute {oi oj : Oper} {τ : Ab} {ei ej : Ef} (hni : Near ops oi) (hnj : Near ops oj) (hap : oi.apart ops oj = true) (hcp : compat R oi.op oj.op = true) (hwf : WF τ) (hi : GEff P T R ops oi τ ei) (hj : GEff P T R ops oj (τ.eff oi.dst ei) ej) :
    GEff P T R ops oj τ ej ∧ GEff P T R ops oi (τ.eff oj.dst ej) ei ∧ (τ.eff oi.dst ei).eff oj.dst ej = (τ.eff oj.dst ej).eff oi.dst ei := by
  obtain ⟨h1, h2, h3⟩ := Oper.apart_spec hap
  have h2' : ∀ d, oj.dst = some d → oi.dst ≠ some d := fun d hd he => h2 d he hd
  have di6 : ∀ d, oi.dst = some d → d < 1000000 := fun d hd => Nat.lt_trans (hni.2 d hd) (by decide)
  have dj6 : ∀ d, oj.dst = some d → d < 1000000 := fun d hd => Nat.lt_trans (hnj.2 d hd) (by decide)
  have plainI : ∀ s, ei = { s } → (cls R oi.op = 0 ∨ ∃ j want t, oi.guard = some (j, want) ∧ (ops[j]?).bind (·.dst) = some t ∧ (τ.s t = .un ∨ τ.s t = .d (.sc (.bool (!want)))) ∧ s = .un) →
      GEff P T R ops oj τ ej ∧ GEff P T R ops oi (τ.eff oj.dst ej) ei ∧ (τ.eff oi.dst ei).eff oj.dst ej = (τ.eff oj.dst ej).eff oi.dst ei := by
    rintro s rfl hp
    have hb := plain_back di6 h1 hj
    exact ⟨hb, plain_on hb.marks hni h3 hi hp, eff_put τ oi.dst oj.dst s ej hb.marks.far di6 h2⟩
  have plainJ : ∀ s, ej = { s } → GEff P T R ops oj τ ej → GEff P T R ops oj τ ej ∧ GEff P T R ops oi (τ.eff oj.dst ej) ei ∧ (τ.eff oi.dst ei).eff oj.dst ej = (τ.eff oj.dst ej).eff oi.dst ei := by
    rintro s rfl hb
    refine ⟨hb, ?_, (eff_put τ oj.dst oi.dst s ei hi.marks.far dj6 h2').symm⟩
    have hs : ∀ t ∈ oi.looksAt ops, (τ.put oj.dst s).s t = τ.s t := fun t ht => by rw [put_s, if_neg (fun e => h3 t e ht)]
    exact hi.move hs ⟨val_same hs, fun k _ => ⟨by rw [eff_plain, put_c], by rw [eff_plain, put_f τ oj.dst s dj6]⟩, fun _ k _ => by rw [eff_plain, put_sh], fun d _ k _ hu => by rw [eff_plain, put_us, put_sh]; exact ⟨hu, fun _ hs => hs⟩⟩
  have hsi : ∀ t ∈ oj.looksAt ops, τ.s t = (τ.eff oi.dst ei).s t := fun t ht => (hi.marks.slot (hnj.1 t ht) (fun e => h1 t e ht)).symm
  cases hi with
  | skip j t want hg ht hst => exact plainI .un rfl (.inr ⟨j, want, t, hg, ht, hst, rfl⟩)
  | tame _ hg hti =>
    cases hj with
    | skip j t want hgj ht hst => exact plainJ .un rfl (.skip j t want hgj ht (by rw [hsi t (guard_looks hgj ht)]; exact hst))
    | tame _ hgj htj =>
      have back : Tm P T R oj τ ej := htj.like (hti.beside hni hnj hwf h1 h2).1
      have on : Tm P T R oi (τ.eff oj.dst ej) ei := hti.like (back.beside hnj hni hwf h3 h2').2
      have hmi := hti.marks
      have hmj := back.marks
      have hs : ∀ t ∈ oi.looksAt ops, (τ.eff oj.dst ej).s t = τ.s t := fun t ht => hmj.slot (hni.1 t ht) (fun e => h3 t e ht)
      refine ⟨.tame _ (hgj.same hsi) back, .tame _ (hg.same hs) on, eff_comm hmi hmj hni hnj h2 (gh_apart hmi hmj hni hnj h2 hwf fun k r1 _ ⟨p, hp, e⟩ _ => ?_) fun k t1 t2 => ?_⟩
      · obtain ⟨j, hj, e2⟩ := hti.tame.2.2 p hp
        have : j = k := by omega
        subst this
        obtain ⟨x, _, hx⟩ := r1
        have := val_ref hwf hx
        rw [(hmi.nu j hj).1] at this; cases this
      · obtain ⟨a1, a2, _⟩ := hti.tame
        obtain ⟨b1, b2, _⟩ := back.tame
        rcases t1 with t1 | ⟨A, t1⟩ | ⟨A, t1⟩
        · rw [a1] at t1; cases t1
        · rw [a2] at t1; cases t1
        · rcases t2 with t2 | ⟨B, t2⟩ | ⟨B, t2⟩
          · rw [b1] at t2; cases t2
          · rw [b2] at t2; cases t2
          · exact h2 k (hmi.al k A t1).1 (hmj.al k B t2).1
    | wild _ hgj hwj =>
      have hc : cls R oi.op = 0 := by
        have := hwj.cls2
        simp only [compat, this, Bool.or_eq_true, Bool.and_eq_true, beq_iff_eq] at hcp
        omega
      obtain ⟨s, he, _⟩ := hti.plain hc
      exact plainI s he (.inl hc)
  | wild _ hg hwi =>
    have hc : cls R oj.op = 0 := by
      have := hwi.cls2
      simp only [compat, this, Bool.or_eq_true, Bool.and_eq_true, beq_iff_eq] at hcp
      omega
    cases hj with
    | skip j t want hgj ht hst => exact plainJ .un rfl (.skip j t want hgj ht (by rw [hsi t (guard_looks hgj ht)]; exact hst))
    | tame _ hgj htj =>
      obtain ⟨s, he, hp⟩ := htj.plain hc
      subst he
      exact plainJ s rfl (.tame _ (hgj.same hsi) (.inl (.pure _ (hp.locl (val_same hsi)))))
    | wild _ hgj hwj => rw [hwj.cls2] at hc; cases hc

theorem commuteK {oi oj : Oper} {τ : Ab} {ei ej : Ef} (hni : Near ops oi) (hnj : Near ops oj) (hap : oi.apart ops oj = true) (hdis : ∀ k, Refs oi τ k → ¬ Refs oj τ k) (hwf : WF τ) (hi : GEff P T R ops oi τ ei) (hj : GEff P T R ops oj (τ.eff oi.dst ei) ej) :
    GEff P T R ops oj τ ej ∧ GEff P T R ops oi (τ.eff oj.dst ej) ei ∧ (τ.eff oi.dst ei).eff oj.dst ej = (τ.eff oj.dst ej).eff oi.dst ei := by
  obtain ⟨h1, h2, h3⟩ := Oper.apart_spec hap
  have h2' : ∀ d, oj.dst = some d → oi.dst ≠ some d := fun d hd he => h2 d he hd
  have used : ∀ {o : Oper} {k : Nat}, Refs o τ k → τ.us k = true := fun ⟨x, _, hx⟩ => val_ref hwf hx
  -- a step leaves what another refers to
  have still : ∀ {o o' : Oper} {e : Ef}, Marks o τ e → Near ops o → Near ops o' → (∀ d, o.dst = some d → d ∉ o'.looksAt ops) → (∀ d, o.dst = some d → o'.dst ≠ some d) → (∀ k, Refs o τ k → ¬ Refs o' τ k) →
      (∀ t ∈ o'.looksAt ops, (τ.eff o.dst e).s t = τ.s t) ∧ Like true o' (τ.eff o.dst e) τ ∧ Like true o' τ (τ.eff o.dst e) := fun {o o' e} hm hn hn' l1 l2 hd => by
    have hs : ∀ t ∈ o'.looksAt ops, (τ.eff o.dst e).s t = τ.s t := fun t ht => hm.slot (hn'.1 t ht) (fun e => l1 t e ht)
    have hv := val_same hs
    have nt : ∀ k, Refs o' τ k → ¬ Touch e k := fun k hk ht => by
      rcases ht with h | ⟨A, h⟩ | ⟨A, h⟩
      · exact hd k (hm.ki k h) hk
      · exact hd k (hm.up k A h) hk
      · have := (hm.al k A h).2; rw [used hk] at this; cases this
    have shk : ∀ k, Refs o' τ k → (τ.eff o.dst e).sh k = τ.sh k := fun k hk => by
      rw [eff_sh']
      cases hb : e.sh.contains k with
      | false => rw [Bool.or_false]
      | true => exact absurd hk (hd k (hm.sh k (by simpa using hb)))
    have hr : ∀ k, Refs o' (τ.eff o.dst e) k → Refs o' τ k := fun k ⟨x, hx, h⟩ => ⟨x, hx, by rw [← hv x hx]; exact h⟩
    have cf : ∀ k, Refs o' τ k → (τ.eff o.dst e).c k = τ.c k ∧ (τ.eff o.dst e).f k = τ.f k := fun k hk => ⟨eff_c_un (nt k hk), hm.fsame hn (fun h => hd k h hk) (used hk)⟩
    refine ⟨hs, ⟨fun x hx => (hv x hx).symm, fun k hk => ⟨(cf k (hr k hk)).1.symm, (cf k (hr k hk)).2.symm⟩, fun _ k hk => (shk k (hr k hk)).symm, fun d _ k _ hu => ⟨us_mono _ _ _ hu, fun _ hs => ?_⟩⟩, ⟨hv, cf, fun _ => shk, fun d hd' k hk hu => ⟨hm.unus hn hn' l2 hd' hk hu, fun _ hs => ?_⟩⟩⟩
    · rw [eff_sh'] at hs
      cases hh : τ.sh k with
      | false => rfl
      | true => rw [hh] at hs; cases hs
    · rw [eff_sh', hs, Bool.false_or]
      cases hb : e.sh.contains k with
      | false => rfl
      | true =>
        have := used (hm.sh k (by simpa using hb))
        rw [hu] at this; cases this
  obtain ⟨s1, b1, _⟩ := still hi.marks hni hnj h1 h2 hdis
  have back : GEff P T R ops oj τ ej := hj.move (fun t ht => (s1 t ht).symm) b1
  obtain ⟨s2, _, b2⟩ := still back.marks hnj hni h3 h2' (fun k h h' => hdis k h' h)
  have on : GEff P T R ops oi (τ.eff oj.dst ej) ei := hi.move s2 b2
  have hmi := hi.marks
  have hmj := back.marks
  refine ⟨back, on, eff_comm hmi hmj hni hnj h2 (gh_apart hmi hmj hni hnj h2 hwf fun k r1 r2 _ _ => hdis k r1 r2) fun k ht hu => ?_⟩
  have fi : Refs oi τ k ∨ (oi.dst = some k ∧ τ.us k = false) := by
    rcases ht with h | ⟨A, h⟩ | ⟨A, h⟩
    · exact .inl (hmi.ki k h)
    · exact .inl (hmi.up k A h)
    · exact .inr (hmi.al k A h)
  have fj : Refs oj τ k ∨ (oj.dst = some k ∧ τ.us k = false) := by
    rcases hu with h | ⟨A, h⟩ | ⟨A, h⟩
    · exact .inl (hmj.ki k h)
    · exact .inl (hmj.up k A h)
    · exact .inr (hmj.al k A h)
  rcases fi with fi | ⟨d1, u1⟩ <;> rcases fj with fj | ⟨d2, u2⟩
  · exact hdis k fi fj
  · have := used fi; rw [u2] at this; cases this
  · have := used fj; rw [u1] at this; cases this
  · exact h2 k d1 d2
end
end Go.DL

namespace Go.DL
open Go.RowKit
section
variable {P : Program} {T : Tys} {R : List Nat} {ops : Array Oper}

/-- Operation number i comes up in state τ. -/
def GStep (P : Program) (T : Tys) (R : List Nat) (ops : Array Oper) (i : Nat) (τ τ' : Ab) : Prop := ∃ o e, ops[i]? = some o ∧ GEff P T R ops o τ e ∧ τ' = τ.eff o.dst e

def dAny (P : Program) (T : Tys) (R : List Nat) (ops : Array Oper) (Q : Ab → Prop) : Nat → Array Bool → Ab → Prop
  | 0, listed, τ => Region.ready .any ops listed = [] ∧ Q τ
  | fuel + 1, listed, τ => (Region.ready .any ops listed = [] → Q τ) ∧ ∀ i ∈ Region.ready .any ops listed, ∃ τ', GStep P T R ops i τ τ' ∧ dAny P T R ops Q fuel (listed.setIfInBounds i true) τ'

section
variable {X : Env} {w0 : World} {M0 : Mem} {n : Nat} {τ τ' : Ab} {ac : Act} {w : World} {Q : Exit → Act → World → Prop} {M : Mem} {γ : Nat → Value}

theorem yielded_of (h : SimW X w0 M0 n τ ac w M γ) {j t : Nat} (ht : (ops[j]?).bind (·.dst) = some t) :
    (∀ b, τ.s t = .d (.sc (.bool b)) → yielded ops ac.tmps j = some b) ∧ (τ.s t = .un → yielded ops ac.tmps j = none) := by
  have hs := h.slots t
  constructor
  · intro b hb
    rw [hb] at hs
    have hv := rep_sc hs
    unfold yielded
    rw [ht]
    simp only [Option.bind_some]
    cases hh : ac.tmps[t]? with
    | none => simp [hh] at hv; cases hv
    | some v => simp [hh] at hv; rw [hv]
  · intro hb
    rw [hb] at hs
    have hv : ac.tmps.getD t undef = undef := hs
    unfold yielded
    rw [ht]
    simp only [Option.bind_some]
    cases hh : ac.tmps[t]? with
    | none => rfl
    | some v => simp [hh] at hv; rw [hv]; rfl

theorem Tm.sound (hT : TOK P T) {o : Oper} {e : Ef} (hd : ∀ d, o.dst = some d → d < n) (h : Tm P T R o τ e) (hs : SimW X w0 M0 n τ ac w M γ) (Q : Exit → Act → World → Prop) :
    o.wp P ac w (fun ac' w' => Sim X w0 M0 n (τ.eff o.dst e) ac' w') Q := by
  rcases h with h | ⟨_, h⟩
  · exact h.sound hT hd hs Q
  · exact h.run τ ⟨fun _ _ => rfl, fun _ _ => ⟨rfl, rfl⟩, fun _ _ _ => rfl, fun _ _ _ _ hu => ⟨hu, fun _ hs => hs⟩⟩ hd hs Q
theorem Wm.sound (hT : TOK P T) {o : Oper} {e : Ef} (hd : ∀ d, o.dst = some d → d < n) (h : Wm P T R o τ e) (hs : SimW X w0 M0 n τ ac w M γ) (Q : Exit → Act → World → Prop) :
    o.wp P ac w (fun ac' w' => Sim X w0 M0 n (τ.eff o.dst e) ac' w') Q := by
  rcases h with h | ⟨_, h⟩
  · exact h.sound hT hd hs Q
  · exact h.run τ ⟨fun _ _ => rfl, fun _ _ => ⟨rfl, rfl⟩, fun _ _ _ => rfl, fun _ _ _ _ hu => ⟨hu, fun _ hs => hs⟩⟩ hd hs Q

theorem GStep.sound (hT : TOK P T) (hd : ∀ (i : Nat) (o : Oper), ops[i]? = some o → ∀ d, o.dst = some d → d < n) {i : Nat} (hg : GStep P T R ops i τ τ') (h : Sim X w0 M0 n τ ac w) {K : Act → World → Prop}
    (hK : ∀ ac' w', Sim X w0 M0 n τ' ac' w' → K ac' w') : wpOp P ops Q i K ac w := by
  obtain ⟨o, e, ho, hge, rfl⟩ := hg
  obtain ⟨M, γ, hs⟩ := h
  have wanted : Wanted ops τ o → Region.wanted o (yielded ops ac.tmps) = true := fun hw => by
    unfold Region.wanted
    rcases hw with hw | ⟨j, want, t, h1, h2, h3⟩
    · rw [hw]
    · rw [h1]
      simp only [(yielded_of hs h2).1 want h3, beq_self_eq_true]
  unfold wpOp
  rw [ho]
  simp only
  cases hge with
  | skip j t want hgd ht hst =>
    have : Region.wanted o (yielded ops ac.tmps) = false := by
      unfold Region.wanted
      rw [hgd]
      rcases hst with hst | hst
      · simp only [(yielded_of hs ht).2 hst]; rfl
      · simp only [(yielded_of hs ht).1 _ hst]
        cases want <;> rfl
    rw [this]
    simp only [Bool.false_eq_true, if_false]
    exact hK _ _ ⟨M, γ, hs.put (hd i o ho) rfl⟩
  | tame _ hg h =>
    rw [wanted hg]
    simp only [if_true]
    exact .inl (Oper.wp_mono hK (h.sound hT (hd i o ho) hs Q))
  | wild _ hg h =>
    rw [wanted hg]
    simp only [if_true]
    exact .inl (Oper.wp_mono hK (h.sound hT (hd i o ho) hs Q))

theorem wpAny_of_dAny (hT : TOK P T) (hd : ∀ (i : Nat) (o : Oper), ops[i]? = some o → ∀ d, o.dst = some d → d < n) {Qd : Ab → Prop} (hQ : ∀ τ ac w, Qd τ → Sim X w0 M0 n τ ac w → Q .normal ac w) :
    ∀ (fuel : Nat) (listed : Array Bool) (τ : Ab) (ac : Act) (w : World), dAny P T R ops Qd fuel listed τ → Sim X w0 M0 n τ ac w → wpAny P .any ops Q fuel listed ac w
  | 0, _, _, _, _, h, hs => ⟨h.1, hQ _ _ _ h.2 hs⟩
  | fuel + 1, listed, τ, ac, w, h, hs => ⟨fun h0 => hQ _ _ _ (h.1 h0) hs, fun i hi => by
      obtain ⟨τ', h1, h2⟩ := h.2 i hi
      exact h1.sound hT hd hs fun ac' w' hs' => wpAny_of_dAny hT hd hQ fuel _ τ' ac' w' h2 hs'⟩
end

/-! ### Who waits for whom -/
inductive Anc (ops : Array Oper) : Nat → Nat → Prop
  | one {j : Nat} {o : Oper} {e : Edge} (ho : ops[j]? = some o) (he : e ∈ o.after) (hb : Region.binds .any e = true) : Anc ops j e.on
  | more {j i : Nat} {o : Oper} {e : Edge} (ho : ops[j]? = some o) (he : e ∈ o.after) (hb : Region.binds .any e = true) (h : Anc ops e.on i) : Anc ops j i

def Closed (ops : Array Oper) (listed : Array Bool) : Prop :=
  ∀ (j : Nat) (o : Oper), listed.getD j false = true → ops[j]? = some o → ∀ e ∈ o.after, Region.binds .any e = true → listed.getD e.on false = true

theorem Closed.anc {listed : Array Bool} (hc : Closed ops listed) {j i : Nat} (ha : Anc ops j i) (hj : listed.getD j false = true) : listed.getD i false = true := by
  induction ha with
  | one ho he hb => exact hc _ _ hj ho _ he hb
  | more ho he hb _ ih => exact ih (hc _ _ hj ho _ he hb)

theorem ready_anc {listed : Array Bool} (hc : Closed ops listed) {j i : Nat} (hj : j ∈ Region.ready .any ops listed) (ha : Anc ops j i) : listed.getD i false = true := by
  obtain ⟨_, o, ho, hall⟩ := mem_ready.1 hj
  cases ha with
  | one ho' he hb => rw [ho] at ho'; cases ho'; exact hall _ he hb
  | more ho' he hb h => rw [ho] at ho'; cases ho'; exact hc.anc h (hall _ he hb)

theorem Closed.step {listed : Array Bool} (hc : Closed ops listed) {j : Nat} (hj : j ∈ Region.ready .any ops listed) : Closed ops (listed.setIfInBounds j true) := by
  intro k o hk ho e he hb
  by_cases hkj : j = k
  · subst hkj
    obtain ⟨_, o', ho', hall⟩ := mem_ready.1 hj
    rw [ho] at ho'; cases ho'
    exact getD_set_true (hall e he hb)
  · rw [getD_set_ne false hkj] at hk
    exact getD_set_true (hc k o hk ho e he hb)

theorem unlisted_iff {listed : Array Bool} {i : Nat} (h : listed.getD i true = false) : listed.getD i false = false := by
  rcases Nat.lt_or_ge i listed.size with h' | h'
  · simpa [h'] using h
  · simp [Array.getElem?_eq_none h'] at h

/-- An operation that may come up now may be taken first. -/
theorem dAny_first (hnear : ∀ (i : Nat) (o : Oper), ops[i]? = some o → Near ops o) {Q : Ab → Prop} {i : Nat} {oi : Oper} {ei : Ef} (hi : ops[i]? = some oi) :
    ∀ (fuel : Nat) (listed : Array Bool) (τ : Ab), Closed ops listed → WF τ →
      (∀ (j : Nat) (oj : Oper), ops[j]? = some oj → j ≠ i → listed.getD j true = false → ¬ Anc ops j i → oi.apart ops oj = true ∧ compat R oi.op oj.op = true) →
      i ∈ Region.ready .any ops listed → GEff P T R ops oi τ ei →
      dAny P T R ops Q fuel (listed.setIfInBounds i true) (τ.eff oi.dst ei) → dAny P T R ops Q (fuel + 1) listed τ := by
  intro fuel
  induction fuel with
  | zero =>
    intro listed τ _ _ _ hr hy H
    refine ⟨fun h => (by rw [h] at hr; cases hr), fun j hj => ?_⟩
    by_cases hji : j = i
    · subst hji; exact ⟨_, ⟨oi, ei, hi, hy, rfl⟩, H⟩
    · have := ready_mono hj hji
      rw [H.1] at this
      cases this
  | succ fuel ih =>
    intro listed τ hcl hwf hfree hr hy H
    refine ⟨fun h => (by rw [h] at hr; cases hr), fun j hj => ?_⟩
    by_cases hji : j = i
    · subst hji; exact ⟨_, ⟨oi, ei, hi, hy, rfl⟩, H⟩
    · obtain ⟨τ2, ⟨oj, ej, hoj, hgj, rfl⟩, h1⟩ := H.2 j (ready_mono hj hji)
      obtain ⟨hjun, oj', hoj', hall⟩ := mem_ready.1 hj
      rw [hoj] at hoj'; cases hoj'
      have hnot : ¬ Anc ops j i := fun ha => by
        have h1 := ready_anc hcl hj ha
        have h0 := unlisted_iff (mem_ready.1 hr).1
        rw [h0] at h1; cases h1
      obtain ⟨hap, hcp⟩ := hfree j oj hoj hji hjun hnot
      obtain ⟨c1, c2, c3⟩ := commute (hnear i oi hi) (hnear j oj hoj) hap hcp hwf hy hgj
      refine ⟨_, ⟨oj, ej, hoj, c1, rfl⟩, ?_⟩
      refine ih (listed.setIfInBounds j true) (τ.eff oj.dst ej) (hcl.step hj) (eff_wf (hnear j oj hoj) hwf c1) (fun k ok hk hki hun hno => ?_) (ready_mono hr (Ne.symm hji)) c2 ?_
      · refine hfree k ok hk hki ?_ hno
        by_cases hjk : j = k
        · subst hjk; exact hjun
        · rw [getD_set_ne true hjk] at hun; exact hun
      · rw [← c3, Array.setIfInBounds_comm _ _ hji]
        exact h1

/-! ### The Bool over a region -/
def ancList (l : List Oper) : List (List Nat) :=
  l.foldl (fun acc o => acc ++ [((o.after.toList.filter (Region.binds .any)).flatMap fun e => e.on :: acc.getD e.on []).eraseDups]) []

def clsB (R : List Nat) (ops : List Oper) : Bool :=
  if ops.all (fun o => cls R o.op != 2) then true else
  let an := ancList ops
  (List.range ops.length).all fun j => (List.range j).all fun i =>
    match ops[i]?, ops[j]? with
    | some oi, some oj => compat R oi.op oj.op || (an.getD j []).contains i
    | _, _ => true

theorem ancList_aux (all : List Oper) : ∀ (l : List Oper) (acc : List (List Nat)), (∀ k, l[k]? = all[acc.length + k]?) → (∀ j, ∀ x ∈ acc.getD j [], Anc all.toArray j x) →
    ∀ j, ∀ x ∈ (l.foldl (fun acc o => acc ++ [((o.after.toList.filter (Region.binds .any)).flatMap fun e => e.on :: acc.getD e.on []).eraseDups]) acc).getD j [], Anc all.toArray j x
  | [], acc, _, h => h
  | o :: l, acc, hl, h => by
    simp only [List.foldl_cons]
    refine ancList_aux all l _ (fun k => ?_) (fun j x hx => ?_)
    · have := hl (k + 1)
      simp only [List.getElem?_cons_succ] at this
      rw [this]
      congr 1
      simp
      omega
    · have ho : all.toArray[acc.length]? = some o := by have := hl 0; simpa using this.symm
      by_cases hj : j < acc.length
      · rw [List.getD_eq_getElem?_getD, List.getElem?_append_left hj] at hx
        exact h j x (by rw [List.getD_eq_getElem?_getD]; exact hx)
      · by_cases hj2 : j = acc.length
        · subst hj2
          rw [List.getD_eq_getElem?_getD, List.getElem?_append_right (Nat.le_refl _)] at hx
          simp only [Nat.sub_self, List.getElem?_cons_zero, Option.getD_some, List.mem_eraseDups, List.mem_flatMap, List.mem_filter, List.mem_cons] at hx
          obtain ⟨e, ⟨he, hb⟩, hx⟩ := hx
          have he' : e ∈ o.after := Array.mem_def.2 he
          rcases hx with rfl | hx
          · exact .one ho he' hb
          · exact .more ho he' hb (h e.on x hx)
        · rw [List.getD_eq_getElem?_getD, List.getElem?_eq_none (by simp; omega)] at hx
          simp at hx

theorem clsB_spec {ops : List Oper} (h : clsB R ops = true) {i j : Nat} (hij : i < j) {oi oj : Oper} (hi : ops[i]? = some oi) (hj : ops[j]? = some oj) (hn : ¬ Anc ops.toArray j i) : compat R oi.op oj.op = true := by
  unfold clsB at h
  split at h
  · rename_i hall
    rw [List.all_eq_true] at hall
    have h1 := hall oi (List.mem_of_getElem? hi)
    have h2 := hall oj (List.mem_of_getElem? hj)
    have c : ∀ op, cls R op = 0 ∨ cls R op = 1 ∨ cls R op = 2 := fun op => by unfold cls; split <;> first | (simp; done) | (split <;> simp)
    simp only [bne_iff_ne, ne_eq] at h1 h2
    simp only [compat, Bool.or_eq_true, Bool.and_eq_true, beq_iff_eq]
    have := c oi.op
    have := c oj.op
    omega
  · simp only [List.all_eq_true, List.mem_range] at h
    have hjl := (List.getElem?_eq_some_iff.1 hj).1
    have := h j hjl i hij
    simp only [hi, hj, Bool.or_eq_true] at this
    rcases this with h1 | h1
    · exact h1
    · exfalso
      exact hn (ancList_aux ops ops [] (fun k => by simp) (fun j x hx => by simp at hx) j i (by simpa [ancList] using h1))

/-- The region in the order of the text. -/
def dLex (P : Program) (T : Tys) (R : List Nat) (ops : Array Oper) (Q : Ab → Prop) : List Oper → Ab → Prop
  | [], τ => Q τ
  | o :: rest, τ => ∃ e, GEff P T R ops o τ e ∧ dLex P T R ops Q rest (τ.eff o.dst e)

theorem closed_lex {ops : Array Oper} : ∀ (fuel k : Nat) (listed : Array Bool), Region.lexFrom .any ops fuel k listed = true → True := fun _ _ _ _ => trivial

theorem dAny_lex {Q : Ab → Prop} {all : List Oper} (hnear : ∀ (i : Nat) (o : Oper), all.toArray[i]? = some o → Near all.toArray o) (hc : clsB R all = true) : ∀ (l : List Oper) (k : Nat) (listed : Array Bool) (τ : Ab), (∀ j, l[j]? = all[k + j]?) → (∀ j, j < k → listed.getD j true = true) → Closed all.toArray listed → WF τ →
    Region.lexFrom .any all.toArray l.length k listed = true → dLex P T R all.toArray Q l τ → dAny P T R all.toArray Q l.length listed τ
  | [], _, _, _, _, _, _, _, hB, h => ⟨by simpa [Region.lexFrom] using hB, h⟩
  | o :: l, k, listed, τ, hl, hlt, hcl, hwf, hB, h => by
    have h0 : all.toArray[k]? = some o := by have := hl 0; simpa using this.symm
    simp only [List.length_cons, Region.lexFrom, Bool.and_eq_true] at hB
    obtain ⟨⟨hr, hf⟩, hB'⟩ := hB
    obtain ⟨e, hg, hK⟩ := h
    have hr' : k ∈ Region.ready .any all.toArray listed := by simpa using hr
    refine dAny_first hnear h0 l.length listed τ hcl hwf (fun j oj hj hne hun hno => ?_) hr' hg ?_
    · have hap := Region.free_spec h0 hf j oj hj hne hun (fun e he hb heq => hno (heq ▸ .one hj he hb))
      have hkj : k < j := by
        rcases Nat.lt_or_ge j k with h1 | h1
        · rw [hlt j h1] at hun; cases hun
        · omega
      exact ⟨hap, clsB_spec hc hkj (by simpa using h0) (by simpa using hj) hno⟩
    · refine dAny_lex hnear hc l (k + 1) _ _ (fun j => by have := hl (j + 1); simpa [Nat.add_assoc, Nat.add_comm 1 j] using this) (fun j hj => ?_) (hcl.step hr') (eff_wf (hnear k o h0) hwf hg) hB' hK
      by_cases hjk : k = j
      · subst hjk
        by_cases hs : k < listed.size
        · simp [hs]
        · simp [Array.getElem?_eq_none (show (listed.setIfInBounds k true).size ≤ k by simpa using hs)]
      · rw [getD_set_ne true hjk]; exact hlt j (by omega)

/-! ### The same, where what the operands refer to is listed -/
abbrev Kl := List Nat × List Nat × Nat
/-- What a step leaves as it is. -/
def Untouch (e : Ef) (k : Nat) : Prop := ¬ Touch e k ∧ (∀ p ∈ e.gh, p.1 ≠ 1000000 + k) ∧ k ∉ e.sh
def Okk (P : Program) (T : Tys) (Ks : Nat → Kl) (j : Nat) (o : Oper) (τ : Ab) (e : Ef) : Prop := (∀ k, Refs o τ k → k ∈ (Ks j).1) ∧ (∀ k ∈ (Ks j).2.1, Untouch e k) ∧ ((Ks j).2.2 = 1 → ∃ s, e = { s }) ∧ ((Ks j).2.2 = 2 → ∃ s, e = { s } ∧ o.guard = none ∧ PEff P T o.op τ.val s)
def dAnyK (P : Program) (T : Tys) (R : List Nat) (ops : Array Oper) (Ks : Nat → Kl) (Q : Ab → Prop) : Nat → Array Bool → Ab → Prop
  | 0, listed, τ => Region.ready .any ops listed = [] ∧ Q τ
  | fuel + 1, listed, τ => (Region.ready .any ops listed = [] → Q τ) ∧ ∀ i ∈ Region.ready .any ops listed, ∃ o e, ops[i]? = some o ∧ GEff P T R ops o τ e ∧ Okk P T Ks i o τ e ∧ dAnyK P T R ops Ks Q fuel (listed.setIfInBounds i true) (τ.eff o.dst e)

theorem dAny_of_K {Ks : Nat → Kl} {Q : Ab → Prop} : ∀ (fuel : Nat) (listed : Array Bool) (τ : Ab), dAnyK P T R ops Ks Q fuel listed τ → dAny P T R ops Q fuel listed τ
  | 0, _, _, h => h
  | fuel + 1, listed, τ, h => ⟨h.1, fun i hi => by
      obtain ⟨o, e, h1, h2, _, h3⟩ := h.2 i hi
      exact ⟨_, ⟨o, e, h1, h2, rfl⟩, dAny_of_K fuel _ _ h3⟩⟩

theorem refs_same {o : Oper} {τ τ' : Ab} (hs : ∀ t ∈ o.looksAt ops, τ'.s t = τ.s t) (k : Nat) : Refs o τ' k ↔ Refs o τ k := by
  have hv := val_same hs
  constructor
  · rintro ⟨x, hx, hk⟩; exact ⟨x, hx, by rw [← hv x hx]; exact hk⟩
  · rintro ⟨x, hx, hk⟩; exact ⟨x, hx, by rw [hv x hx]; exact hk⟩

def disj (a b : List Nat) : Bool := a.all fun x => !(b.contains x)
theorem disj_spec {a b : List Nat} (h : disj a b = true) : ∀ k, k ∈ a → k ∉ b := fun k ha hb => by
  have := List.all_eq_true.1 h k ha
  simp at this
  exact this hb

def SlB (a b : Kl) : Bool := (Nat.beq b.2.2 1 && b.1.all fun k => !(a.1.contains k) || a.2.1.contains k) || Nat.beq b.2.2 2
theorem SlB_spec {a b : Kl} (h : SlB a b = true) : (b.2.2 = 1 ∧ ∀ k ∈ b.1, k ∈ a.1 → k ∈ a.2.1) ∨ b.2.2 = 2 := by
  unfold SlB at h
  rw [Bool.or_eq_true, Bool.and_eq_true, List.all_eq_true] at h
  rcases h with h | h
  · refine .inl ⟨Nat.eq_of_beq_eq_true h.1, fun k h1 h2 => ?_⟩
    have := h.2 k h1
    simpa [h2] using this
  · exact .inr (Nat.eq_of_beq_eq_true h)

theorem commuteP {oi oj : Oper} {τ : Ab} {ei : Ef} {s : S} (hnj : Near ops oj) (hni : Near ops oi) (hap : oi.apart ops oj = true) (hi : GEff P T R ops oi τ ei) (hb : GEff P T R ops oj τ { s }) :
    GEff P T R ops oj τ { s } ∧ GEff P T R ops oi (τ.eff oj.dst { s }) ei ∧ (τ.eff oi.dst ei).eff oj.dst { s } = (τ.eff oj.dst { s }).eff oi.dst ei := by
  obtain ⟨h1, h2, h3⟩ := Oper.apart_spec hap
  have h2' : ∀ d, oj.dst = some d → oi.dst ≠ some d := fun d hd he => h2 d he hd
  have dj6 : ∀ d, oj.dst = some d → d < 1000000 := fun d hd => Nat.lt_trans (hnj.2 d hd) (by decide)
  refine ⟨hb, ?_, (eff_put τ oj.dst oi.dst s ei hi.marks.far dj6 h2').symm⟩
  have hs : ∀ t ∈ oi.looksAt ops, (τ.put oj.dst s).s t = τ.s t := fun t ht => by rw [put_s, if_neg (fun e => h3 t e ht)]
  exact hi.move hs ⟨val_same hs, fun k _ => ⟨by rw [eff_plain, put_c], by rw [eff_plain, put_f τ oj.dst s dj6]⟩, fun _ k _ => by rw [eff_plain, put_sh], fun d _ k _ hu => by rw [eff_plain, put_us, put_sh]; exact ⟨hu, fun _ hs => hs⟩⟩
/-- A step that only gives a slot beside one that leaves what it looks at. -/
theorem commuteS {oi oj : Oper} {τ : Ab} {ei ej : Ef} (hni : Near ops oi) (hnj : Near ops oj) (hap : oi.apart ops oj = true) (hq : ∀ k, Refs oj τ k → Refs oi τ k → Untouch ei k) (hwf : WF τ) (hi : GEff P T R ops oi τ ei) (hj : GEff P T R ops oj (τ.eff oi.dst ei) ej) (he : ∃ s, ej = { s }) :
    GEff P T R ops oj τ ej ∧ GEff P T R ops oi (τ.eff oj.dst ej) ei ∧ (τ.eff oi.dst ei).eff oj.dst ej = (τ.eff oj.dst ej).eff oi.dst ei := by
  obtain ⟨h1, h2, h3⟩ := Oper.apart_spec hap
  obtain ⟨s, rfl⟩ := he
  have h2' : ∀ d, oj.dst = some d → oi.dst ≠ some d := fun d hd he => h2 d he hd
  have dj6 : ∀ d, oj.dst = some d → d < 1000000 := fun d hd => Nat.lt_trans (hnj.2 d hd) (by decide)
  have used : ∀ {o : Oper} {k : Nat}, Refs o τ k → τ.us k = true := fun ⟨x, _, hx⟩ => val_ref hwf hx
  have hm := hi.marks
  have hs : ∀ t ∈ oj.looksAt ops, (τ.eff oi.dst ei).s t = τ.s t := fun t ht => hm.slot (hnj.1 t ht) (fun e => h1 t e ht)
  have hv := val_same hs
  have st : ∀ k, Refs oj τ k → (τ.eff oi.dst ei).c k = τ.c k ∧ (τ.eff oi.dst ei).f k = τ.f k ∧ (τ.eff oi.dst ei).sh k = τ.sh k := fun k hk => by
    by_cases hr : Refs oi τ k
    · obtain ⟨q1, q2, q3⟩ := hq k hk hr
      refine ⟨eff_c_un q1, eff_f _ _ _ (fun d hd => Nat.lt_trans (hni.2 d hd) (by decide)) k ?_, ?_⟩
      · cases hl : lkG (1000000 + k) ei.gh with
        | none => rfl
        | some s => exact absurd rfl (q2 _ (lkG_mem hl))
      · rw [eff_sh']
        cases hb : ei.sh.contains k with
        | false => rw [Bool.or_false]
        | true => exact absurd (by simpa using hb) q3
    · refine ⟨eff_c_un (fun ht => ?_), hm.fsame hni hr (used hk), ?_⟩
      · rcases ht with h | ⟨A, h⟩ | ⟨A, h⟩
        · exact hr (hm.ki k h)
        · exact hr (hm.up k A h)
        · have := (hm.al k A h).2; rw [used hk] at this; cases this
      · rw [eff_sh']
        cases hb : ei.sh.contains k with
        | false => rw [Bool.or_false]
        | true => exact absurd (hm.sh k (by simpa using hb)) hr
  have hr : ∀ k, Refs oj (τ.eff oi.dst ei) k → Refs oj τ k := fun k ⟨x, hx, h⟩ => ⟨x, hx, by rw [← hv x hx]; exact h⟩
  have hb : GEff P T R ops oj τ { s } := hj.move (fun t ht => (hs t ht).symm) ⟨fun x hx => (hv x hx).symm, fun k hk => ⟨((st k (hr k hk)).1).symm, ((st k (hr k hk)).2.1).symm⟩, fun _ k hk => ((st k (hr k hk)).2.2).symm, fun d _ k _ hu => ⟨us_mono _ _ _ hu, fun _ hs => by
    rw [eff_sh'] at hs
    cases hh : τ.sh k with
    | false => rfl
    | true => rw [hh] at hs; cases hs⟩⟩
  exact commuteP hnj hni hap hi hb

theorem dAnyK_first (hnear : ∀ (i : Nat) (o : Oper), ops[i]? = some o → Near ops o) {Ks : Nat → Kl} {Q : Ab → Prop} {i : Nat} {oi : Oper} {ei : Ef} (hi : ops[i]? = some oi) :
    ∀ (fuel : Nat) (listed : Array Bool) (τ : Ab), Closed ops listed → WF τ →
      (∀ (j : Nat) (oj : Oper), ops[j]? = some oj → j ≠ i → listed.getD j true = false → ¬ Anc ops j i → oi.apart ops oj = true ∧ (compat R oi.op oj.op = true ∨ disj (Ks i).1 (Ks j).1 = true ∨ SlB (Ks i) (Ks j) = true)) →
      i ∈ Region.ready .any ops listed → GEff P T R ops oi τ ei → Okk P T Ks i oi τ ei →
      dAnyK P T R ops Ks Q fuel (listed.setIfInBounds i true) (τ.eff oi.dst ei) → dAnyK P T R ops Ks Q (fuel + 1) listed τ := by
  intro fuel
  induction fuel with
  | zero =>
    intro listed τ _ _ _ hr hy hok H
    refine ⟨fun h => (by rw [h] at hr; cases hr), fun j hj => ?_⟩
    by_cases hji : j = i
    · subst hji; exact ⟨oi, ei, hi, hy, hok, H⟩
    · have := ready_mono hj hji
      rw [H.1] at this
      cases this
  | succ fuel ih =>
    intro listed τ hcl hwf hfree hr hy hok H
    refine ⟨fun h => (by rw [h] at hr; cases hr), fun j hj => ?_⟩
    by_cases hji : j = i
    · subst hji; exact ⟨oi, ei, hi, hy, hok, H⟩
    · obtain ⟨oj, ej, hoj, hgj, hokj, h1⟩ := H.2 j (ready_mono hj hji)
      obtain ⟨hjun, oj', hoj', hall⟩ := mem_ready.1 hj
      rw [hoj] at hoj'; cases hoj'
      have hnot : ¬ Anc ops j i := fun ha => by
        have h1 := ready_anc hcl hj ha
        have h0 := unlisted_iff (mem_ready.1 hr).1
        rw [h0] at h1; cases h1
      obtain ⟨hap, hcp⟩ := hfree j oj hoj hji hjun hnot
      obtain ⟨a1, a2, a3⟩ := Oper.apart_spec hap
      have hni := hnear i oi hi
      have hnj := hnear j oj hoj
      have hsi : ∀ t ∈ oj.looksAt ops, (τ.eff oi.dst ei).s t = τ.s t := fun t ht => hy.marks.slot (hnj.1 t ht) (fun e => a1 t e ht)
      have hokj' : Okk P T Ks j oj τ ej := ⟨fun k hk => hokj.1 k ((refs_same hsi k).2 hk), hokj.2.1, hokj.2.2.1, fun h => by
        obtain ⟨s, h1, h2, h3⟩ := hokj.2.2.2 h
        exact ⟨s, h1, h2, h3.locl fun x hx => (val_same hsi x hx).symm⟩⟩
      have hcom : GEff P T R ops oj τ ej ∧ GEff P T R ops oi (τ.eff oj.dst ej) ei ∧ (τ.eff oi.dst ei).eff oj.dst ej = (τ.eff oj.dst ej).eff oi.dst ei := by
        rcases hcp with hcp | hcp | hcp
        · exact commute hni hnj hap hcp hwf hy hgj
        · exact commuteK hni hnj hap (fun k h1 h2 => disj_spec hcp k (hok.1 k h1) (hokj'.1 k h2)) hwf hy hgj
        · rcases SlB_spec hcp with ⟨q1, q2⟩ | q1
          · exact commuteS hni hnj hap (fun k h1 h2 => hok.2.1 k (q2 k (hokj'.1 k h1) (hok.1 k h2))) hwf hy hgj (hokj'.2.2.1 q1)
          · obtain ⟨s, e1, e2, e3⟩ := hokj'.2.2.2 q1
            subst e1
            exact commuteP hnj hni hap hy (.tame _ (.inl e2) (.inl (.pure s e3)))
      obtain ⟨c1, c2, c3⟩ := hcom
      have hsj : ∀ t ∈ oi.looksAt ops, (τ.eff oj.dst ej).s t = τ.s t := fun t ht => c1.marks.slot (hni.1 t ht) (fun e => a3 t e ht)
      have hok2 : Okk P T Ks i oi (τ.eff oj.dst ej) ei := ⟨fun k hk => hok.1 k ((refs_same hsj k).1 hk), hok.2.1, hok.2.2.1, fun h => by
        obtain ⟨s, h1, h2, h3⟩ := hok.2.2.2 h
        exact ⟨s, h1, h2, h3.locl (val_same hsj)⟩⟩
      refine ⟨oj, ej, hoj, c1, hokj', ?_⟩
      refine ih (listed.setIfInBounds j true) (τ.eff oj.dst ej) (hcl.step hj) (eff_wf (hnear j oj hoj) hwf c1) (fun k ok hk hki hun hno => ?_) (ready_mono hr (Ne.symm hji)) c2 hok2 ?_
      · refine hfree k ok hk hki ?_ hno
        by_cases hjk : j = k
        · subst hjk; exact hjun
        · rw [getD_set_ne true hjk] at hun; exact hun
      · rw [← c3, Array.setIfInBounds_comm _ _ hji]
        exact h1

def clsK (R : List Nat) (ops : List Oper) (Ks : List Kl) : Bool :=
  let an := ancList ops
  (List.range ops.length).all fun j => (List.range j).all fun i =>
    match ops[i]?, ops[j]? with
    | some oi, some oj => compat R oi.op oj.op || disj (Ks.getD i ([], [], 0)).1 (Ks.getD j ([], [], 0)).1 || (an.getD j []).contains i || SlB (Ks.getD i ([], [], 0)) (Ks.getD j ([], [], 0))
    | _, _ => true
theorem clsK_spec {ops : List Oper} {Ks : List Kl} (h : clsK R ops Ks = true) {i j : Nat} (hij : i < j) {oi oj : Oper} (hi : ops[i]? = some oi) (hj : ops[j]? = some oj) (hn : ¬ Anc ops.toArray j i) : compat R oi.op oj.op = true ∨ disj (Ks.getD i ([], [], 0)).1 (Ks.getD j ([], [], 0)).1 = true ∨ SlB (Ks.getD i ([], [], 0)) (Ks.getD j ([], [], 0)) = true := by
  unfold clsK at h
  simp only [List.all_eq_true, List.mem_range] at h
  have hjl := (List.getElem?_eq_some_iff.1 hj).1
  have := h j hjl i hij
  simp only [hi, hj, Bool.or_eq_true] at this
  rcases this with ((h1 | h1) | h1) | h1
  · exact .inl h1
  · exact .inr (.inl h1)
  · exfalso
    exact hn (ancList_aux ops ops [] (fun k => by simp) (fun j x hx => by simp at hx) j i (by simpa [ancList] using h1))
  · exact .inr (.inr h1)

def dLexK (P : Program) (T : Tys) (R : List Nat) (ops : Array Oper) (Ks : Nat → Kl) (Q : Ab → Prop) : List Oper → Nat → Ab → Prop
  | [], _, τ => Q τ
  | o :: rest, k, τ => ∃ e, GEff P T R ops o τ e ∧ Okk P T Ks k o τ e ∧ dLexK P T R ops Ks Q rest (k + 1) (τ.eff o.dst e)

theorem dAnyK_lex {Q : Ab → Prop} {all : List Oper} {Ks : List Kl} (hnear : ∀ (i : Nat) (o : Oper), all.toArray[i]? = some o → Near all.toArray o) (hc : clsK R all Ks = true) : ∀ (l : List Oper) (k : Nat) (listed : Array Bool) (τ : Ab), (∀ j, l[j]? = all[k + j]?) → (∀ j, j < k → listed.getD j true = true) → Closed all.toArray listed → WF τ →
    Region.lexFrom .any all.toArray l.length k listed = true → dLexK P T R all.toArray (fun j => Ks.getD j ([], [], 0)) Q l k τ → dAnyK P T R all.toArray (fun j => Ks.getD j ([], [], 0)) Q l.length listed τ
  | [], _, _, _, _, _, _, _, hB, h => ⟨by simpa [Region.lexFrom] using hB, h⟩
  | o :: l, k, listed, τ, hl, hlt, hcl, hwf, hB, h => by
    have h0 : all.toArray[k]? = some o := by have := hl 0; simpa using this.symm
    simp only [List.length_cons, Region.lexFrom, Bool.and_eq_true] at hB
    obtain ⟨⟨hr, hf⟩, hB'⟩ := hB
    obtain ⟨e, hg, hok, hK⟩ := h
    have hr' : k ∈ Region.ready .any all.toArray listed := by simpa using hr
    refine dAnyK_first hnear h0 l.length listed τ hcl hwf (fun j oj hj hne hun hno => ?_) hr' hg hok ?_
    · have hap := Region.free_spec h0 hf j oj hj hne hun (fun e he hb heq => hno (heq ▸ .one hj he hb))
      have hkj : k < j := by
        rcases Nat.lt_or_ge j k with h1 | h1
        · rw [hlt j h1] at hun; cases hun
        · omega
      exact ⟨hap, clsK_spec hc hkj (by simpa using h0) (by simpa using hj) hno⟩
    · refine dAnyK_lex hnear hc l (k + 1) _ _ (fun j => by have := hl (j + 1); simpa [Nat.add_assoc, Nat.add_comm 1 j] using this) (fun j hj => ?_) (hcl.step hr') (eff_wf (hnear k o h0) hwf hg) hB' hK
      by_cases hjk : k = j
      · subst hjk
        by_cases hs : k < listed.size
        · simp [hs]
        · simp [Array.getElem?_eq_none (show (listed.setIfInBounds k true).size ≤ k by simpa using hs)]
      · rw [getD_set_ne true hjk]; exact hlt j (by omega)

theorem dLex_of_K {Q : Ab → Prop} {Ks : Nat → Kl} : ∀ {l : List Oper} {k : Nat} {τ : Ab}, dLexK P T R ops Ks Q l k τ → dLex P T R ops Q l τ
  | [], _, _, h => h
  | o :: l, k, τ, h => by obtain ⟨e, h1, _, h2⟩ := h; exact ⟨e, h1, dLex_of_K h2⟩

def dstB (n : Nat) (ops : List Oper) : Bool := ops.all fun o => (match o.dst with | some d => Nat.blt d n && Nat.blt d 100000 | none => true) && (o.looksAt ops.toArray).all (fun t => Nat.blt t 1000000)
theorem blt_spec {a b : Nat} (h : Nat.blt a b = true) : a < b := Nat.le_of_ble_eq_true h
theorem dstB_spec {n : Nat} {ops : List Oper} (h : dstB n ops = true) (i : Nat) (o : Oper) (ho : ops.toArray[i]? = some o) (d : Nat) (hd : o.dst = some d) : d < n := by
  have := List.all_eq_true.1 h o (List.mem_of_getElem? (by simpa using ho))
  simp only [hd, Bool.and_eq_true] at this
  exact blt_spec this.1.1
theorem dstB_near {n : Nat} {ops : List Oper} (h : dstB n ops = true) (i : Nat) (o : Oper) (ho : ops.toArray[i]? = some o) : Near ops.toArray o := by
  have := List.all_eq_true.1 h o (List.mem_of_getElem? (by simpa using ho))
  rw [Bool.and_eq_true] at this
  refine ⟨fun t ht => blt_spec (List.all_eq_true.1 this.2 t ht), fun d hd => ?_⟩
  have h1 := this.1
  simp only [hd, Bool.and_eq_true] at h1
  exact blt_spec h1.2

section
variable {X : Env} {w0 : World} {M0 : Mem} {n : Nat} {τ : Ab} {ac : Act} {w : World} {Q : Exit → Act → World → Prop}

/-- A region that asks the tape: the walk in the order of the text serves every order. -/
theorem region_draw {id : Nat} {l : List Oper} (hm : P.follows .mixedOrders = true) (hT : TOK P T) (hB : Region.lexB .any l.toArray = true) (hc : clsB R l = true) (hn : dstB n l = true) {Qd : Ab → Prop}
    (h : dLex P T R l.toArray Qd l τ) (hs : Sim X w0 M0 n τ ac w) (hQ : ∀ τ ac w, Qd τ → Sim X w0 M0 n τ ac w → Q .normal ac w) : (Code.region id l.toArray true).wp P Q ac w := by
  simp only [Region.lexB, Bool.and_eq_true] at hB
  have hwf := hs.wf
  obtain ⟨M, γ, hs⟩ := hs
  refine wp_region_any hm (wpAny_of_dAny (R := R) hT (dstB_spec hn) hQ _ _ τ _ _ ?_ ⟨M, γ, hs.drew _⟩)
  have := dAny_lex (P := P) (T := T) (R := R) (Q := Qd) (dstB_near hn) hc l 0 (Array.replicate l.toArray.size false) τ (by simp) (fun j hj => absurd hj (Nat.not_lt_zero _)) (fun j o hj => ?_) hwf (by simpa using hB.2) h
  · simpa using this
  · exfalso
    simp only [Array.getD_eq_getD_getElem?, Array.getElem?_replicate] at hj
    split at hj <;> simp at hj

/-- A region that asks the tape, with what its operands refer to. -/
theorem region_drawK {id : Nat} {l : List Oper} {Ks : List Kl} (hm : P.follows .mixedOrders = true) (hT : TOK P T) (hB : Region.lexB .any l.toArray = true) (hc : clsK R l Ks = true) (hn : dstB n l = true) {Qd : Ab → Prop}
    (h : dLexK P T R l.toArray (fun j => Ks.getD j ([], [], 0)) Qd l 0 τ) (hs : Sim X w0 M0 n τ ac w) (hQ : ∀ τ ac w, Qd τ → Sim X w0 M0 n τ ac w → Q .normal ac w) : (Code.region id l.toArray true).wp P Q ac w := by
  simp only [Region.lexB, Bool.and_eq_true] at hB
  have hwf := hs.wf
  obtain ⟨M, γ, hs⟩ := hs
  refine wp_region_any hm (wpAny_of_dAny (R := R) hT (dstB_spec hn) hQ _ _ τ _ _ (dAny_of_K (Ks := fun j => Ks.getD j ([], [], 0)) _ _ _ ?_) ⟨M, γ, hs.drew _⟩)
  have := dAnyK_lex (P := P) (T := T) (R := R) (Q := Qd) (dstB_near hn) hc l 0 (Array.replicate l.toArray.size false) τ (by simp) (fun j hj => absurd hj (Nat.not_lt_zero _)) (fun j o hj => ?_) hwf (by simpa using hB.2) h
  · simpa using this
  · exfalso
    simp only [Array.getD_eq_getD_getElem?, Array.getElem?_replicate] at hj
    split at hj <;> simp at hj

/-- The region in the order of the text, where calls may have results that are known by a property. -/
def dLexE (P : Program) (T : Tys) (R : List Nat) (ops : Array Oper) (Q : Ab → Prop) : List Oper → Ab → Prop
  | [], τ => Q τ
  | o :: rest, τ => (∃ e, GEff P T R ops o τ e ∧ dLexE P T R ops Q rest (τ.eff o.dst e)) ∨ (∃ E : Ef → Prop, Wanted ops τ o ∧ DEff P T o τ E ∧ ∀ e, E e → dLexE P T R ops Q rest (τ.eff o.dst e))

theorem DStep.sound (hd : ∀ (i : Nat) (o : Oper), ops[i]? = some o → ∀ d, o.dst = some d → d < n) {i : Nat} {o : Oper} {E : Ef → Prop} (ho : ops[i]? = some o) (hw : Wanted ops τ o) (hg : DEff P T o τ E) (h : Sim X w0 M0 n τ ac w) {K : Act → World → Prop}
    (hK : ∀ e ac' w', E e → Sim X w0 M0 n (τ.eff o.dst e) ac' w' → K ac' w') : wpOp P ops Q i K ac w := by
  obtain ⟨M, γ, hs⟩ := h
  have hwa : Region.wanted o (yielded ops ac.tmps) = true := by
    unfold Region.wanted
    rcases hw with hw | ⟨j, want, t, h1, h2, h3⟩
    · rw [hw]
    · rw [h1]
      simp only [(yielded_of hs h2).1 want h3, beq_self_eq_true]
  unfold wpOp
  rw [ho]
  simp only [hwa, if_true]
  exact .inl (Oper.wp_mono (fun ac' w' h => by obtain ⟨e, h1, h2⟩ := h; exact hK e ac' w' h1 h2) (hg.sound (hd i o ho) hs Q))

theorem wpOps_lexE (hT : TOK P T) {l : List Oper} (hn : dstB n l = true) {Qd : Ab → Prop} (hQ : ∀ τ ac w, Qd τ → Sim X w0 M0 n τ ac w → Q .normal ac w) :
    ∀ (rest : List Oper) (k : Nat) (τ : Ab) (ac : Act) (w : World), (∀ j, rest[j]? = l[k + j]?) → dLexE P T R l.toArray Qd rest τ → Sim X w0 M0 n τ ac w → wpOps P l.toArray Q (List.range' k rest.length) ac w
  | [], _, τ, ac, w, _, h, hs => hQ τ ac w h hs
  | o :: rest, k, τ, ac, w, hl, h, hs => by
    have h0 : l.toArray[k]? = some o := by have := hl 0; simpa using this.symm
    have hl2 : ∀ j, rest[j]? = l[k + 1 + j]? := fun j => by have := hl (j + 1); simpa [Nat.add_assoc, Nat.add_comm 1 j] using this
    rw [List.length_cons, List.range'_succ, wpOps_cons]
    rcases h with ⟨e, hg, hK⟩ | ⟨E, hw, hg, hK⟩
    · exact GStep.sound (P := P) (T := T) (R := R) hT (dstB_spec hn) ⟨o, e, h0, hg, rfl⟩ hs fun ac' w' hs' => wpOps_lexE hT hn hQ rest (k + 1) _ ac' w' hl2 hK hs'
    · exact DStep.sound (P := P) (T := T) (dstB_spec hn) h0 hw hg hs fun e ac' w' he hs' => wpOps_lexE hT hn hQ rest (k + 1) _ ac' w' hl2 (hK e he) hs'

theorem wpOps_lex (hT : TOK P T) {l : List Oper} (hn : dstB n l = true) {Qd : Ab → Prop} (hQ : ∀ τ ac w, Qd τ → Sim X w0 M0 n τ ac w → Q .normal ac w) :
    ∀ (rest : List Oper) (k : Nat) (τ : Ab) (ac : Act) (w : World), (∀ j, rest[j]? = l[k + j]?) → dLex P T R l.toArray Qd rest τ → Sim X w0 M0 n τ ac w → wpOps P l.toArray Q (List.range' k rest.length) ac w
  | [], _, τ, ac, w, _, h, hs => hQ τ ac w h hs
  | o :: rest, k, τ, ac, w, hl, h, hs => by
    have h0 : l.toArray[k]? = some o := by have := hl 0; simpa using this.symm
    obtain ⟨e, hg, hK⟩ := h
    rw [List.length_cons, List.range'_succ, wpOps_cons]
    refine GStep.sound (P := P) (T := T) (R := R) hT (dstB_spec hn) ⟨o, e, h0, hg, rfl⟩ hs fun ac' w' hs' => ?_
    exact wpOps_lex hT hn hQ rest (k + 1) _ ac' w' (fun j => by have := hl (j + 1); simpa [Nat.add_assoc, Nat.add_comm 1 j] using this) hK hs'

theorem region_plain {id : Nat} {l : List Oper} (hT : TOK P T) (hn : dstB n l = true) {Qd : Ab → Prop}
    (h : dLexE P T R l.toArray Qd l τ) (hs : Sim X w0 M0 n τ ac w) (hQ : ∀ τ ac w, Qd τ → Sim X w0 M0 n τ ac w → Q .normal ac w) : (Code.region id l.toArray false).wp P Q ac w := by
  refine wp_region ?_
  have := wpOps_lexE (Q := Q) hT hn hQ l 0 τ ac w (by simp) h hs
  rw [List.range_eq_range']
  simpa using this
end
end
end Go.DL

namespace Go.DL
open Go.RowKit

/-! ### Trees: cells -/
/-- Nothing in it refers to an array outside of it. -/
inductive NoRef : D → Prop
  | sc (v : Value) : NoRef (.sc v)
  | sl (xs : List D) : NoRef (.sl xs)
  | jk : NoRef .jk
  | own (e : TypeId) (sz : Nat) (xs : List D) (h : ∀ d, d ∈ fl xs → NoRef d) : NoRef (.own e sz xs)
def NoRefL (xs : List D) : Prop := ∀ d, d ∈ fl xs → NoRef d

theorem CellT.free {w : World} {M : Mem} {us us' : Nat → Bool} {γ γ' : Nat → Value} {d : D} {v : Value} {Φ : Nat → Prop} (h : CellT w M us γ d v Φ) : NoRef d → CellT w M us' γ' d v Φ := by
  induction h with
  | pl d v Φ h hc => exact fun _ => .pl d v Φ h hc
  | ref k m v Φ h hl hv => exact fun hn => by cases hn
  | jk v Φ h => exact fun _ => .jk v Φ h
  | own e sz xs v Φ cs ψ ho hp hw hc hb hs hd ih =>
    intro hn
    cases hn with
    | own _ _ _ h => exact .own e sz xs v Φ cs ψ ho hp hw (fun p d u h1 h2 => ih p d u h1 h2 (h d (List.mem_of_getElem? h1))) hb hs hd

theorem D.fl_len (x : D) : x.fl.length = x.width := by cases x <;> rfl
theorem fl_cons (x : D) (xs : List D) : fl (x :: xs) = x.fl ++ fl xs := rfl
theorem fl_append (xs ys : List D) : fl (xs ++ ys) = fl xs ++ fl ys := by unfold fl; rw [List.flatMap_append]
theorem fl_len {sz : Nat} : ∀ {xs : List D}, (∀ x ∈ xs, x.width = sz) → (fl xs).length = xs.length * sz
  | [], _ => by simp [fl]
  | x :: xs, h => by
    rw [fl_cons, List.length_append, x.fl_len, h x List.mem_cons_self, fl_len fun y hy => h y (List.mem_cons_of_mem _ hy), List.length_cons, Nat.add_mul]
    omega
theorem fl_get {sz : Nat} : ∀ {xs : List D} {i : Nat} {x : D}, (∀ x ∈ xs, x.width = sz) → xs[i]? = some x → ∀ {p : Nat}, p < sz → (fl xs)[i * sz + p]? = x.fl[p]?
  | [], i, x, _, h, _, _ => by simp at h
  | y :: xs, 0, x, hw, h, p, hp => by
    simp at h; subst h
    rw [fl_cons, Nat.zero_mul, Nat.zero_add, List.getElem?_append_left (by rw [y.fl_len, hw y List.mem_cons_self]; exact hp)]
  | y :: xs, i + 1, x, hw, h, p, hp => by
    have hy := hw y List.mem_cons_self
    rw [fl_cons, List.getElem?_append_right (by rw [y.fl_len, hy, Nat.add_mul]; omega), y.fl_len, hy]
    have e : (i + 1) * sz + p - sz = i * sz + p := by rw [Nat.add_mul]; omega
    rw [e]
    exact fl_get (fun z hz => hw z (List.mem_cons_of_mem _ hz)) (by simpa using h) hp
theorem fl_set {sz : Nat} {xs : List D} {i : Nat} {y : D} (hw : ∀ x ∈ xs, x.width = sz) (hi : i < xs.length) (hy : y.width = sz) (q : Nat) :
    (fl (xs.set i y))[q]? = if i * sz ≤ q ∧ q < i * sz + sz then y.fl[q - i * sz]? else (fl xs)[q]? := by
  have hw' : ∀ x ∈ xs.set i y, x.width = sz := fun x hx => by
    rcases List.mem_or_eq_of_mem_set hx with h | h
    · exact hw x h
    · rw [h]; exact hy
  have hl1 := fl_len hw
  have hl2 := fl_len hw'
  rw [List.length_set] at hl2
  by_cases hq : q < xs.length * sz
  · have hpos : 0 < sz := by
      rcases Nat.eq_zero_or_pos sz with e | e
      · subst e; simp at hq
      · exact e
    have hj : q / sz < xs.length := (Nat.div_lt_iff_lt_mul hpos).2 hq
    have hdm : q / sz * sz + q % sz = q := by rw [Nat.mul_comm]; exact Nat.div_add_mod q sz
    have hmod := Nat.mod_lt q hpos
    by_cases e : q / sz = i
    · rw [if_pos (by rw [← e]; omega)]
      have h1 : (xs.set i y)[i]? = some y := by simp [hi]
      have := fl_get hw' h1 hmod
      rw [← e, hdm] at this
      rw [← e, this]
      congr 1
      omega
    · rw [if_neg (by
        rcases Nat.lt_or_ge (q / sz) i with h | h
        · have := mul_succ_le (sz := sz) h; omega
        · have := mul_succ_le (sz := sz) (show i < q / sz by omega); omega)]
      have h1 : xs[q / sz]? = some (xs[q / sz]'hj) := List.getElem?_eq_getElem hj
      have h2 : (xs.set i y)[q / sz]? = some (xs[q / sz]'hj) := by rw [List.getElem?_set_ne (Ne.symm e)]; exact h1
      have a := fl_get hw' h2 hmod
      have b := fl_get hw h1 hmod
      rw [hdm] at a b
      rw [a, b]
  · rw [List.getElem?_eq_none (by omega), if_neg (by
      have := mul_succ_le (sz := sz) hi; omega), List.getElem?_eq_none (by omega)]

theorem gho_f (τ : Ab) (gh : List (Nat × S)) (nu : List Nat) (k : Nat) : (τ.gho gh nu).f k = match lkG (1000000 + k) gh with | some (.fa B) => some B | some _ => none | none => τ.f k := by
  unfold Ab.f
  rw [gho_s]
  cases h : lkG (1000000 + k) gh with
  | none => rfl
  | some s => cases s <;> rfl

section
variable {X : Env} {w0 : World} {M0 : Mem} {n : Nat} {τ : Ab} {ac : Act} {w : World} {M : Mem} {γ : Nat → Value} {P : Program} {T : Tys}

theorem TrOK.none {x : Nat → Prop} {w0 w : World} {M : Mem} {us : Nat → Bool} {c f : Nat → Option Arr} {γ : Nat → Value} (h : ∀ k, f k = none) : ∃ φ, TrOK x w0 w M us c f γ φ :=
  ⟨fun _ _ => False, fun k B hB => (by rw [h] at hB; cases hB), fun k B g hB => (by rw [h] at hB; cases hB), fun k k' B B' g hB => (by rw [h] at hB; cases hB)⟩

/-- The row of a tree array. -/
structure TRow (w : World) (M : Mem) (us : Nat → Bool) (γ : Nat → Value) (B : Arr) (v : Value) (Φ : Nat → Prop) (cs : List Value) (ψ : Nat → Nat → Prop) : Prop where
  ho : w.ownsRow 0 B.e B.sz v B.xs.length cs
  hp : 0 < B.sz
  hw : ∀ x, x ∈ B.xs → x.width = B.sz
  hc : ∀ (p : Nat) (d : D) (u : Value), (fl B.xs)[p]? = some d → cs[p]? = some u → CellT w M us γ d u (ψ p)
  hb : ∀ g, v.ownBlock = some g → Φ g ∧ ∀ p, ¬ ψ p g
  hs : ∀ p g, ψ p g → Φ g
  hd : ∀ p p' g, ψ p g → ψ p' g → p = p'
theorem TRow.cell {us : Nat → Bool} {B : Arr} {v : Value} {Φ : Nat → Prop} {cs : List Value} {ψ : Nat → Nat → Prop} (h : TRow w M us γ B v Φ cs ψ) : CellT w M us γ (.own B.e B.sz B.xs) v Φ := .own _ _ _ _ _ cs ψ h.ho h.hp h.hw h.hc h.hb h.hs h.hd
theorem CellT.trow {us : Nat → Bool} {B : Arr} {v : Value} {Φ : Nat → Prop} (h : CellT w M us γ (.own B.e B.sz B.xs) v Φ) : ∃ cs ψ, TRow w M us γ B v Φ cs ψ := by
  cases h with
  | pl _ _ _ h => cases h
  | own _ _ _ _ _ cs ψ ho hp hw hc hb hs hd => exact ⟨cs, ψ, ho, hp, hw, hc, hb, hs, hd⟩
theorem TRow.len {us : Nat → Bool} {B : Arr} {v : Value} {Φ : Nat → Prop} {cs : List Value} {ψ : Nat → Nat → Prop} (h : TRow w M us γ B v Φ cs ψ) : cs.length = (fl B.xs).length := by rw [h.ho.1, fl_len h.hw]
theorem TRow.at {us : Nat → Bool} {B : Arr} {v : Value} {Φ : Nat → Prop} {cs : List Value} {ψ : Nat → Nat → Prop} (h : TRow w M us γ B v Φ cs ψ) {g : Nat} (hg : v.ownBlock = some g) {p : Nat} {d : D} (hd : (fl B.xs)[p]? = some d) :
    ∃ u, cs[p]? = some u ∧ w.cell? ⟨g, p, none⟩ = some u ∧ w.frozen? ⟨g, p, none⟩ = false ∧ CellT w M us γ d u (ψ p) := by
  have hl := (List.getElem?_eq_some_iff.1 hd).1
  have hc : cs[p]? = some (cs[p]'(by rw [h.len]; exact hl)) := List.getElem?_eq_getElem _
  refine ⟨_, hc, ?_, ?_, h.hc p d _ hd hc⟩
  · have h1 := h.ho.cells hg p _ hc
    rwa [addr_add0] at h1
  · rcases h.ho.2 with ⟨hv, _⟩ | ⟨g', cap, cur, hv, _, hh, _⟩
    · rw [hv] at hg; cases hg
    · rw [hv] at hg
      have e : g' = g := Option.some.inj hg
      subst e
      exact frozen_of_row w g' p cur B.e hh

theorem SimW.tree (h : SimW X w0 M0 n τ ac w M γ) {k : Nat} {B : Arr} (hB : τ.f k = some B) : ∃ φ cs ψ, TrOK X.x w0 w M τ.us τ.c τ.f γ φ ∧ TRow w M τ.us γ B (γ k) (φ k) cs ψ := by
  obtain ⟨φ, ht⟩ := h.tr
  obtain ⟨cs, ψ, hr⟩ := (ht.row k B hB).2.2.trow
  exact ⟨φ, cs, ψ, ht, hr⟩

theorem f_us (h : SimW X w0 M0 n τ ac w M γ) {k : Nat} {B : Arr} (hB : τ.f k = some B) : τ.us k = true ∧ τ.c k = none := by
  obtain ⟨φ, ht⟩ := h.tr
  exact ⟨(ht.row k B hB).1, (ht.row k B hB).2.1⟩
theorem f_slot {τ : Ab} {k : Nat} {B : Arr} (h : τ.f k = some B) : τ.s (1000000 + k) = .fa B := by
  unfold Ab.f at h
  split at h
  · rename_i B' hs; cases h; exact hs
  · cases h

/-- The slots, where tree arrays change and come to be. -/
theorem Goes.gho {gh : List (Nat × S)} {nu : List Nat} {γ' : Nat → Value} (hu : ∀ k, τ.us k = true → γ' k = γ k) (hf : ∀ k B', lkG (1000000 + k) gh = some (.fa B') → τ.us k = true → ∃ B, τ.f k = some B ∧ B'.sz = B.sz ∧ B.xs.length ≤ B'.xs.length) :
    Goes τ (τ.gho gh nu) γ γ' := by
  intro k hk
  refine ⟨by rw [gho_us, hk, Bool.or_true], fun A hA => ⟨A, by rw [gho_c] at hA; exact hA, rfl, Nat.le_refl _, hu k hk⟩, hu k hk, fun B' hB' => ?_⟩
  rw [gho_f] at hB'
  cases hl : lkG (1000000 + k) gh with
  | none => rw [hl] at hB'; exact ⟨B', hB', rfl, Nat.le_refl _⟩
  | some s =>
    rw [hl] at hB'
    cases s <;> simp only at hB' <;> first | cases hB' | skip
    exact hf k _ hl hk

def Ab.tup (τ : Ab) (k : Nat) (B : Arr) : Ab := τ.gho [(1000000 + k, .fa B)] []
theorem tup_f (τ : Ab) (k : Nat) (B : Arr) (j : Nat) : (τ.tup k B).f j = if j = k then some B else τ.f j := by
  unfold Ab.tup
  rw [gho_f]
  simp only [lkG]
  by_cases e : j = k
  · rw [if_pos (by omega), if_pos e]
  · rw [if_neg (by omega), if_neg e]
theorem tup_c (τ : Ab) (k : Nat) (B : Arr) : (τ.tup k B).c = τ.c := gho_c _ _ _
theorem tup_us (τ : Ab) (k : Nat) (B : Arr) : (τ.tup k B).us = τ.us := by funext j; unfold Ab.tup; rw [gho_us]; simp
theorem tup_sh (τ : Ab) (k : Nat) (B : Arr) : (τ.tup k B).sh = τ.sh := gho_sh _ _ _

/-- The slots of the state, where tree array k has changed. -/
theorem tup_slots (h : SimW X w0 M0 n τ ac w M γ) {k : Nat} {B B' : Arr} (hB : τ.f k = some B) (hsz : B'.sz = B.sz) (hlen : B.xs.length ≤ B'.xs.length) (hr : ∀ j m, D.ref j m ∈ fl B'.xs → τ.us j = true) (t : Nat) : RepS M (τ.tup k B') γ ((τ.tup k B').s t) (ac.tmps.getD t undef) := by
  have hgo : Goes τ (τ.tup k B') γ γ := Goes.gho (fun _ _ => rfl) fun j B'' hl _ => by
    simp only [lkG] at hl
    split at hl
    · rename_i e
      have e1 : k = j := by omega
      cases hl
      subst e1
      exact ⟨B, hB, hsz, hlen⟩
    · cases hl
  unfold Ab.tup
  rw [gho_s]
  simp only [lkG]
  by_cases e : t = 1000000 + k
  · rw [if_pos e]
    intro j m hm
    have : (τ.tup k B').us j = true := by rw [tup_us]; exact hr j m hm
    exact this
  · rw [if_neg e]
    exact (h.slots t).goes (Mem.le_refl M) hgo

theorem tup_pin (h : SimW X w0 M0 n τ ac w M γ) {k : Nat} {B B' : Arr} (hB : τ.f k = some B) : ∀ j v, X.pn j = some v → 100000 ≤ j ∧ (n ≤ j ∧ j < 200000) ∧ (∀ A, (τ.tup k B').c j = some A → γ j = v) ∧ ∀ B, (τ.tup k B').f j = some B → γ j = v := by
  intro j v hj
  obtain ⟨p1, p2, p3, p4⟩ := h.pin j v hj
  refine ⟨p1, p2, fun A hA => p3 A (by rw [tup_c] at hA; exact hA), fun B'' hB'' => ?_⟩
  rw [tup_f] at hB''
  split at hB''
  · rename_i e; exact p4 B (e ▸ hB)
  · exact p4 B'' hB''

/-- Cells of a tree array written, none of which owns anything. -/
theorem SimW.tstore (h : SimW X w0 M0 n τ ac w M γ) {P : Program} {k : Nat} {B : Arr} (hB : τ.f k = some B) {g : Nat} (hg : (γ k).ownBlock = some g) {o : Nat} {us : List Value} {ds : List D}
    (ho : o + us.length ≤ (fl B.xs).length) (hl : ds.length = us.length) (hu : ∀ (j : Nat) (d : D) (u : Value), ds[j]? = some d → us[j]? = some u → d.isCell = true ∧ RepR M τ.us γ d u)
    {xs : List D} (hlen : xs.length = B.xs.length) (hw : ∀ x ∈ xs, x.width = B.sz) (hx : ∀ q, (fl xs)[q]? = if o ≤ q ∧ q < o + us.length then ds[q - o]? else (fl B.xs)[q]?) :
    ∃ w', (storeCells ⟨g, o, none⟩ us).run P w = .ok () w' ∧ SimW X w0 M0 n (τ.tup k ⟨B.e, B.sz, xs⟩) ac w' M γ := by
  obtain ⟨φ, cs, ψ, ht, hr⟩ := h.tree hB
  have cellD : ∀ {d : D} {u : Value}, d.isCell = true → RepR M τ.us γ d u → ∀ Φ, CellT w M τ.us γ d u Φ := fun {d u} hc hd Φ => by
    cases d with
    | ref j m => exact .ref j m u Φ hd.1 hd.2.1 hd.2.2
    | sc v => exact .pl _ u Φ hd hc
    | sl ys => exact .pl _ u Φ hd hc
    | agg fs => cases hc
    | own e z ys => exact .pl _ u Φ hd hc
    | jk => exact .pl _ u Φ hd hc
  have hone : ∀ u ∈ us, u.oneCell' = true := fun u hu' => by
    obtain ⟨j, hj⟩ := List.getElem?_of_mem hu'
    have hjl := (List.getElem?_eq_some_iff.1 hj).1
    obtain ⟨h1, h2⟩ := hu j _ u (List.getElem?_eq_getElem (by omega)) hj
    exact (cellD h1 h2 (fun _ => False)).oneCell
  have hrow := hr.ho
  rcases hrow.2 with ⟨hv, _⟩ | ⟨g', cap, cur, hv, r1, r2, r3, r4, r5, r6⟩
  · rw [hv] at hg; cases hg
  have e : g' = g := by rw [hv] at hg; exact Option.some.inj hg
  subst e
  have hlf := fl_len hr.hw
  have hle : B.xs.length * B.sz ≤ cap * B.sz := Nat.mul_le_mul_right _ r3
  have hst := run_storeCells_at P g' o B.e us 0 cur w r2 (by omega) hone
  simp only [Nat.add_zero] at hst
  refine ⟨_, hst, ?_⟩
  generalize hw' : w.setRow g' (cur.toList.take o ++ us ++ cur.toList.drop (o + us.length)).toArray = w'
  have hoth : ∀ j, j ≠ g' → w'.heap[j]? = w.heap[j]? := fun j hj => by rw [← hw']; exact setRow_other w g' j _ hj
  have hsize : w'.heap.size = w.heap.size := by rw [← hw']; simp
  have hMg : ∀ off sp, M ⟨g', off, sp⟩ = none := (ht.new k B g' hB (hr.hb g' hg).1).2.2.1
  have hnew := (ht.new k B g' hB (hr.hb g' hg).1).2.1
  have hcl := hrow.1
  have hown' : w'.ownsRow 0 B.e B.sz (γ k) xs.length (cs.take o ++ us ++ cs.drop (o + us.length)) := by
    rw [hlen]
    refine ⟨?_, .inr ⟨g', cap, _, hv, r1, by rw [← hw']; exact setRow_heap w g' cur _ B.e _ r2, r3, r4, ?_, ?_⟩⟩
    · simp only [List.length_append, List.length_take, List.length_drop]; omega
    · simp only [List.size_toArray, List.length_append, List.length_take, List.length_drop, Array.length_toList]; omega
    · rw [← r6]
      have h1 : (cur.toList.take o).length = o := by simp; omega
      apply List.ext_getElem?
      intro i
      simp only [List.getElem?_take, List.getElem?_append, List.length_append, h1, List.getElem?_drop, List.length_take, Array.length_toList]
      have hmin : min o (min (B.xs.length * B.sz) cur.size) = o := by omega
      simp only [hmin]
      by_cases c1 : i < B.xs.length * B.sz
      · rw [if_pos c1]
        by_cases c2 : i < o + us.length
        · rw [if_pos c2, if_pos c2]
          by_cases c3 : i < o
          · simp only [if_pos c3, if_pos c1]
          · rw [if_neg c3, if_neg c3]
        · rw [if_neg c2, if_neg c2, if_pos (by omega)]
      · rw [if_neg c1]
        rw [if_neg (by omega), if_neg (by omega)]
  have hcell : ∀ a u, M a = some u → w'.cell? a = some u := fun a u hau => by
    have hne : a.block ≠ g' := fun e => by
      have := hMg a.off a.spot
      rw [← e] at this
      rw [show (⟨a.block, a.off, a.spot⟩ : Addr) = a from rfl, hau] at this
      cases this
    rw [World.cell?_of_block (hoth a.block hne)]
    exact h.mw a u hau
  have hcB : o + us.length ≤ cs.length := by rw [hr.len]; exact ho
  have newrow : TRow w' M τ.us γ ⟨B.e, B.sz, xs⟩ (γ k) (φ k) (cs.take o ++ us ++ cs.drop (o + us.length)) ψ := by
    refine ⟨hown', hr.hp, hw, fun p d u h1 h2 => ?_, hr.hb, hr.hs, hr.hd⟩
    rw [hx] at h1
    rw [splice_get hcB] at h2
    by_cases c : o ≤ p ∧ p < o + us.length
    · rw [if_pos c] at h1
      rw [if_neg (by omega), if_pos c.2] at h2
      obtain ⟨a, b⟩ := hu (p - o) d u h1 h2
      have := cellD a b (ψ p)
      cases this with
      | pl _ _ _ h hc => exact .pl _ _ _ h hc
      | ref j m _ _ h hl hv => exact .ref j m _ _ h hl hv
      | jk _ _ h => exact .jk _ _ h
      | own => cases b
    · rw [if_neg c] at h1
      have h3 : cs[p]? = some u := by
        by_cases c1 : p < o
        · rw [if_pos c1] at h2; exact h2
        · rw [if_neg c1, if_neg (by omega)] at h2; exact h2
      exact (hr.hc p d u h1 h3).keep (Mem.le_refl M) (fun _ h => ⟨h, rfl⟩) fun g2 hg2 => hoth g2 (fun e => (hr.hb g' hg).2 p (e ▸ hg2))
  refine ⟨h.dfr, h.fsz, by rw [← hw']; exact h.os, by rw [← hw']; exact h.tape, by rw [← hw']; exact h.output, by rw [hsize]; exact h.hsz, fun j hj hX => ?_, h.m0, hcell, h.mn,
    tup_slots h hB rfl (Nat.le_of_eq hlen.symm) (fun j m hm => ?_), fun j A hA => ?_, fun j j' A1 A2 g2 h1 h2 => ?_, tup_pin h hB, h.nb, φ, fun j B2 hB2 => ?_, fun j B2 g2 hB2 hg2 => ?_, fun j j' B1 B2 g2 h1 h2 => ?_⟩
  · have hne : j ≠ g' := by
      rintro rfl
      rcases hnew with h1 | h1
      · omega
      · exact hX h1
    rw [hoth j hne]
    exact h.frame j hj hX
  · obtain ⟨q, hq⟩ := List.getElem?_of_mem hm
    rw [hx] at hq
    split at hq
    · rename_i c
      have hjl := (List.getElem?_eq_some_iff.1 hq).1
      obtain ⟨_, b⟩ := hu (q - o) _ (us[q - o]'(by omega)) hq (List.getElem?_eq_getElem (by omega))
      exact b.1
    · have := h.slots (1000000 + k)
      rw [f_slot hB] at this
      exact this j m (List.mem_of_getElem? hq)
  · rw [tup_c] at hA
    obtain ⟨h1, h2⟩ := h.ow j A hA
    rw [tup_us, tup_sh]
    exact ⟨h1, h2.keep (Mem.le_refl M) (fun g2 hg2 => hoth g2 (fun e => (ht.new k B g' hB (hr.hb g' hg).1).2.2.2 j A hA (e ▸ hg2))) (fun _ _ _ _ _ hu => hu) id⟩
  · rw [tup_c] at h1 h2
    exact h.di j j' A1 A2 g2 h1 h2
  · rw [tup_f] at hB2
    rw [tup_us, tup_c]
    split at hB2
    · rename_i e
      cases hB2
      subst e
      exact ⟨(ht.row j B hB).1, (ht.row j B hB).2.1, newrow.cell⟩
    · rename_i e
      obtain ⟨a, b, c⟩ := ht.row j B2 hB2
      exact ⟨a, b, c.keep (Mem.le_refl M) (fun _ h => ⟨h, rfl⟩) fun g2 hg2 => hoth g2 (fun e2 => e (ht.dis j k B2 B g2 hB2 hB hg2 (e2 ▸ (hr.hb g' hg).1)))⟩
  · rw [tup_f] at hB2
    rw [hsize, tup_c]
    split at hB2
    · rename_i e
      subst e
      exact ht.new j B g2 hB hg2
    · exact ht.new j B2 g2 hB2 hg2
  · rw [tup_f] at h1 h2
    have f1 : ∃ B', τ.f j = some B' := by
      by_cases e : j = k
      · exact ⟨B, e ▸ hB⟩
      · rw [if_neg e] at h1; exact ⟨B1, h1⟩
    have f2 : ∃ B', τ.f j' = some B' := by
      by_cases e : j' = k
      · exact ⟨B, e ▸ hB⟩
      · rw [if_neg e] at h2; exact ⟨B2, h2⟩
    obtain ⟨B1', f1⟩ := f1
    obtain ⟨B2', f2⟩ := f2
    exact ht.dis j j' B1' B2' g2 f1 f2

/-! ### Ghost steps: what is known is put otherwise -/
theorem SimW.ghost (h : SimW X w0 M0 n τ ac w M γ) {τ' : Ab} {γ' : Nat → Value} (hs : ∀ t, τ'.s t = τ.s t ∨ (∃ B, τ'.s t = .fa B ∧ ∀ j m, D.ref j m ∈ fl B.xs → τ'.us j = true) ∨ τ'.s t = .junk) (hgo : Goes τ τ' γ γ')
    (how : ∀ k A, τ'.c k = some A → τ'.us k = true ∧ OwnOK X w0 w M (τ'.sh k) A (γ' k)) (hdi : ∀ k k' A A' g, τ'.c k = some A → τ'.c k' = some A' → (γ' k).ownBlock = some g → (γ' k').ownBlock = some g → k = k')
    (hpin : ∀ k v, X.pn k = some v → (∀ A, τ'.c k = some A → γ' k = v) ∧ ∀ B, τ'.f k = some B → γ' k = v) (htr : ∃ φ, TrOK X.x w0 w M τ'.us τ'.c τ'.f γ' φ) : SimW X w0 M0 n τ' ac w M γ' := by
  refine ⟨h.dfr, h.fsz, h.os, h.tape, h.output, h.hsz, h.frame, h.m0, h.mw, h.mn, fun t => ?_, how, hdi, fun k v hk => ⟨(h.pin k v hk).1, (h.pin k v hk).2.1, hpin k v hk⟩, h.nb, htr⟩
  rcases hs t with e | ⟨B, e, hr⟩ | e
  · rw [e]; exact (h.slots t).goes (Mem.le_refl M) hgo
  · rw [e]; exact hr
  · rw [e]; trivial

/-- The cells of an array, one by one. -/
theorem cellsOK_fl {M : Mem} {sz : Nat} {xs : List D} {cs : List Value} (hw : ∀ x ∈ xs, x.width = sz) (hl : cs.length = xs.length * sz) (h : ∀ (p : Nat) (d : D) (u : Value), (fl xs)[p]? = some d → cs[p]? = some u → Rep M d u ∧ d.isCell = true) : CellsOK M sz xs cs := by
  refine ⟨hl, fun j x hx => ?_⟩
  have hxw := hw x (List.mem_of_getElem? hx)
  have hj := (List.getElem?_eq_some_iff.1 hx).1
  have hms := mul_succ_le (sz := sz) hj
  have key : ∀ i, i < sz → ∀ d, x.fl[i]? = some d → ∃ v, cs[j * sz + i]? = some v ∧ Rep M d v ∧ d.isCell = true := fun i hi d hd => by
    have h1 := fl_get hw hx hi
    rw [hd] at h1
    have h2 : cs[j * sz + i]? = some (cs[j * sz + i]'(by omega)) := List.getElem?_eq_getElem (by omega)
    obtain ⟨a, b⟩ := h _ d _ h1 h2
    exact ⟨_, h2, a, b⟩
  refine ⟨hxw, fun hc => ?_, fun fs hfs i f hi => ?_⟩
  · have h1 : x.fl[0]? = some x := by cases x <;> first | rfl | cases hc
    have h2 := width_one hc
    obtain ⟨v, a, b, _⟩ := key 0 (by omega) x h1
    exact ⟨v, by simpa using a, b⟩
  · subst hfs
    have hil := (List.getElem?_eq_some_iff.1 hi).1
    obtain ⟨v, a, b, c⟩ := key i (by have : fs.length = sz := hxw; omega) f hi
    exact ⟨c, v, a, b⟩
theorem fl_cellsOK {M : Mem} {sz : Nat} (hp : 0 < sz) {xs : List D} {cs : List Value} (h : CellsOK M sz xs cs) : (∀ x ∈ xs, x.width = sz) ∧ ∀ (p : Nat) (d : D) (u : Value), (fl xs)[p]? = some d → cs[p]? = some u → Rep M d u ∧ d.isCell = true := by
  have hw : ∀ x ∈ xs, x.width = sz := fun x hx => by obtain ⟨j, hj⟩ := List.getElem?_of_mem hx; exact (h.2 j x hj).1
  refine ⟨hw, fun p d u hd hu => ?_⟩
  have hpl := (List.getElem?_eq_some_iff.1 hd).1
  rw [fl_len hw] at hpl
  have hj : p / sz < xs.length := (Nat.div_lt_iff_lt_mul hp).2 hpl
  have hdm : p / sz * sz + p % sz = p := by rw [Nat.mul_comm]; exact Nat.div_add_mod p sz
  have hx : xs[p / sz]? = some (xs[p / sz]'hj) := List.getElem?_eq_getElem hj
  obtain ⟨h1, h2, h3⟩ := h.2 _ _ hx
  have h4 := fl_get hw hx (Nat.mod_lt p hp)
  rw [hdm, hd] at h4
  generalize xs[p / sz]'hj = x at h1 h2 h3 h4
  cases x with
  | agg fs =>
    obtain ⟨c, v, a, b⟩ := h3 fs rfl (p % sz) d h4.symm
    rw [hdm, hu] at a
    cases a
    exact ⟨b, c⟩
  | _ =>
    have hsz : sz = 1 := h1.symm
    subst hsz
    simp only [D.fl, Nat.mod_one, List.getElem?_cons_zero, Option.some.injEq] at h4
    obtain ⟨v, a, b⟩ := h2 rfl
    simp only [Nat.div_one, Nat.mul_one] at a
    rw [hu] at a
    cases a
    subst h4
    exact ⟨b, rfl⟩

def plainL (xs : List D) : Prop := ∀ d, d ∈ fl xs → d.isRef = false

/-- The slice of a cell that owns it is taken out under a key. -/
theorem SimW.tcheckF (h : SimW X w0 M0 n τ ac w M γ) {k : Nat} {B : Arr} (hB : τ.f k = some B) {q : Nat} {e : TypeId} {sz : Nat} {zs : List D} (hq : (fl B.xs)[q]? = some (.own e sz zs)) {d : Nat} (hd : τ.us d = false) (hdn : d < n)
    {xs : List D} (hlen : xs.length = B.xs.length) (hw : ∀ x ∈ xs, x.width = B.sz) (hx : ∀ p, (fl xs)[p]? = if p = q then some (.ref d zs.length) else (fl B.xs)[p]?) {g : Nat} (hg : (γ k).ownBlock = some g) :
    ∃ u, w.cell? ⟨g, q, none⟩ = some u ∧ LenV u zs.length ∧ SimW X w0 M0 n (τ.gho [(1000000 + k, .fa ⟨B.e, B.sz, xs⟩), (1000000 + d, .fa ⟨e, sz, zs⟩)] [d]) ac w M (upd γ d u) := by
  obtain ⟨φ, cs, ψ, ht, hr⟩ := h.tree hB
  obtain ⟨u, hcu, hcell, _, hct⟩ := hr.at hg hq
  obtain ⟨hus, hck⟩ := f_us h hB
  have hdk : d ≠ k := fun e => by rw [e, hus] at hd; cases hd
  have hfd : τ.f d = none := by
    cases hf : τ.f d with
    | none => rfl
    | some B' => have := (f_us h hf).1; rw [hd] at this; cases this
  have hlen' : LenV u zs.length := by
    cases hct with
    | pl _ _ _ h => cases h
    | own _ _ _ _ _ _ _ ho => exact own_len ho
  have hne : ∀ j, τ.us j = true → j ≠ d := fun j hj e => by rw [e, hd] at hj; cases hj
  have hup : ∀ j, τ.us j = true → upd γ d u j = γ j := fun j hj => by simp [upd, hne j hj]
  have hud : upd γ d u d = u := by simp [upd]
  have usd : ∀ j, (τ.gho [(1000000 + k, .fa ⟨B.e, B.sz, xs⟩), (1000000 + d, .fa ⟨e, sz, zs⟩)] [d]).us j = (decide (j = d) || τ.us j) := fun j => by
    rw [gho_us]; simp
  have umono : ∀ j, τ.us j = true → (τ.gho [(1000000 + k, .fa ⟨B.e, B.sz, xs⟩), (1000000 + d, .fa ⟨e, sz, zs⟩)] [d]).us j = true ∧ upd γ d u j = γ j := fun j hj => ⟨by rw [usd, hj, Bool.or_true], hup j hj⟩
  have fs : ∀ j, (τ.gho [(1000000 + k, .fa ⟨B.e, B.sz, xs⟩), (1000000 + d, .fa ⟨e, sz, zs⟩)] [d]).f j = if j = k then some ⟨B.e, B.sz, xs⟩ else if j = d then some ⟨e, sz, zs⟩ else τ.f j := fun j => by
    rw [gho_f]
    simp only [lkG]
    by_cases e1 : j = k
    · rw [if_pos (by omega), if_pos e1]
    · rw [if_neg (by omega), if_neg e1]
      by_cases e2 : j = d
      · rw [if_pos (by omega), if_pos e2]
      · rw [if_neg (by omega), if_neg e2]
  have hslotB := h.slots (1000000 + k)
  rw [f_slot hB] at hslotB
  have hgo : Goes τ (τ.gho [(1000000 + k, .fa ⟨B.e, B.sz, xs⟩), (1000000 + d, .fa ⟨e, sz, zs⟩)] [d]) γ (upd γ d u) := Goes.gho hup fun j B' hl hj => by
    simp only [lkG] at hl
    split at hl
    · rename_i e1
      have : k = j := by omega
      subst this
      cases hl
      exact ⟨B, hB, rfl, Nat.le_of_eq hlen.symm⟩
    · split at hl
      · rename_i e1
        exact absurd (by omega) (hne j hj)
      · cases hl
  -- the row that is left
  have kept : CellT w M (τ.gho [(1000000 + k, .fa ⟨B.e, B.sz, xs⟩), (1000000 + d, .fa ⟨e, sz, zs⟩)] [d]).us (upd γ d u) (.own B.e B.sz xs) (γ k) (fun g => φ k g ∧ ¬ ψ q g) := by
    refine .own B.e B.sz xs _ _ cs (fun p g => if p = q then False else ψ p g) (by rw [hlen]; exact hr.ho) hr.hp hw (fun p d' u' h1 h2 => ?_) (fun g hg => ⟨⟨(hr.hb g hg).1, (hr.hb g hg).2 q⟩, fun p hp => ?_⟩) (fun p g hp => ?_) (fun p p' g h1 h2 => ?_)
    · rw [hx] at h1
      by_cases c : p = q
      · rw [if_pos c] at h1
        cases h1
        rw [c, hcu] at h2
        cases h2
        exact .ref d _ _ _ (by rw [usd]; simp) hlen' hud.symm
      · rw [if_neg c] at h1
        simp only [c, if_false]
        exact (hr.hc p d' u' h1 h2).keep (Mem.le_refl M) umono fun _ _ => rfl
    · split at hp
      · exact hp
      · exact (hr.hb g hg).2 p hp
    · split at hp
      · exact hp.elim
      · rename_i c
        exact ⟨hr.hs p g hp, fun hq' => c (hr.hd p q g hp hq')⟩
    · split at h1
      · exact h1.elim
      · split at h2
        · exact h2.elim
        · exact hr.hd p p' g h1 h2
  refine ⟨u, hcell, hlen', h.ghost (fun t => ?_) hgo (fun j A hA => ?_) (fun j j' A A' g' h1 h2 g1 g2 => ?_) (fun j v hj => ?_) ⟨fun j g => if j = k then φ k g ∧ ¬ ψ q g else if j = d then ψ q g else φ j g, fun j B' hB' => ?_, fun j B' g' hB' hg' => ?_, fun j j' B1 B2 g' h1 h2 g1 g2 => ?_⟩⟩
  · rw [gho_s]
    simp only [lkG]
    by_cases e1 : t = 1000000 + k
    · right; left
      rw [if_pos e1]
      refine ⟨_, rfl, fun j m hm => ?_⟩
      obtain ⟨p, hp⟩ := List.getElem?_of_mem hm
      rw [hx] at hp
      split at hp
      · cases hp; rw [usd]; simp
      · exact (umono j (hslotB j m (List.mem_of_getElem? hp))).1
    · rw [if_neg e1]
      by_cases e2 : t = 1000000 + d
      · right; left
        rw [if_pos e2]
        refine ⟨_, rfl, fun j m hm => ?_⟩
        cases hct with
        | pl _ _ _ h => cases h
        | own _ _ _ _ _ cs' ψ' ho' hp' hw' hc' =>
          obtain ⟨p, hp⟩ := List.getElem?_of_mem hm
          have hpl : p < (fl zs).length := (List.getElem?_eq_some_iff.1 hp).1
          have hcl : cs'.length = (fl zs).length := by rw [ho'.1, fl_len hw']
          have h5 := hc' p _ _ hp (List.getElem?_eq_getElem (by omega : p < cs'.length))
          cases h5 with
          | pl _ _ _ h => cases h
          | ref _ _ _ _ h => exact (umono j h).1
      · left
        rw [if_neg e2]; rfl
  · rw [gho_c] at hA
    obtain ⟨h1, h2⟩ := h.ow j A hA
    rw [gho_sh, hup j h1]
    exact ⟨(umono j h1).1, h2⟩
  · rw [gho_c] at h1 h2
    rw [hup j (h.ow j A h1).1] at g1
    rw [hup j' (h.ow j' A' h2).1] at g2
    exact h.di j j' A A' g' h1 h2 g1 g2
  · obtain ⟨p1, p2, p3, p4⟩ := h.pin j v hj
    have hjd : j ≠ d := by omega
    rw [show upd γ d u j = γ j by simp [upd, hjd]]
    refine ⟨fun A hA => p3 A (by rw [gho_c] at hA; exact hA), fun B' hB' => ?_⟩
    rw [fs] at hB'
    by_cases e1 : j = k
    · exact p4 B (e1 ▸ hB)
    · rw [if_neg e1, if_neg hjd] at hB'; exact p4 B' hB'
  · rw [fs] at hB'
    rw [gho_c]
    by_cases e1 : j = k
    · rw [if_pos e1] at hB'
      cases hB'
      subst e1
      simp only [if_true]
      rw [hup j hus]
      exact ⟨(umono j hus).1, hck, kept⟩
    · rw [if_neg e1] at hB'
      by_cases e2 : j = d
      · rw [if_pos e2] at hB'
        cases hB'
        subst e2
        simp only [e1, if_false, if_true]
        rw [hud]
        refine ⟨by rw [usd]; simp, ?_, hct.keep (Mem.le_refl M) umono fun _ _ => rfl⟩
        cases hc : τ.c j with
        | none => rfl
        | some A => have := (h.ow j A hc).1; rw [hd] at this; cases this
      · rw [if_neg e2] at hB'
        simp only [e1, e2, if_false]
        obtain ⟨a, b, c⟩ := ht.row j B' hB'
        rw [hup j a]
        exact ⟨(umono j a).1, b, c.keep (Mem.le_refl M) umono fun _ _ => rfl⟩
  · rw [fs] at hB'
    rw [gho_c]
    have cc : ∀ g', (∃ j0 B0, τ.f j0 = some B0 ∧ φ j0 g') → g' < w.heap.size ∧ (w0.heap.size ≤ g' ∨ X.x g') ∧ (∀ off sp, M ⟨g', off, sp⟩ = none) ∧ ∀ i A, τ.c i = some A → (upd γ d u i).ownBlock ≠ some g' := fun g' ⟨j0, B0, h1, h2⟩ => by
      obtain ⟨a, b, c, e⟩ := ht.new j0 B0 g' h1 h2
      exact ⟨a, b, c, fun i A hA => by rw [hup i (h.ow i A hA).1]; exact e i A hA⟩
    by_cases e1 : j = k
    · rw [if_pos e1] at hg'
      exact cc g' ⟨k, B, hB, hg'.1⟩
    · rw [if_neg e1] at hB' hg'
      by_cases e2 : j = d
      · rw [if_pos e2] at hg'
        exact cc g' ⟨k, B, hB, hr.hs q g' hg'⟩
      · rw [if_neg e2] at hB' hg'
        exact cc g' ⟨j, B', hB', hg'⟩
  · rw [fs] at h1 h2
    have up : ∀ i B0, (if i = k then some ⟨B.e, B.sz, xs⟩ else if i = d then some ⟨e, sz, zs⟩ else τ.f i) = some B0 → (if i = k then φ k g' ∧ ¬ ψ q g' else if i = d then ψ q g' else φ i g') → (i = k ∧ φ k g' ∧ ¬ ψ q g') ∨ (i = d ∧ ψ q g' ∧ φ k g') ∨ (i ≠ k ∧ i ≠ d ∧ φ i g' ∧ ∃ B0, τ.f i = some B0) := fun i B0 a b => by
      by_cases e1 : i = k
      · rw [if_pos e1] at b; exact .inl ⟨e1, b⟩
      · rw [if_neg e1] at a b
        by_cases e2 : i = d
        · rw [if_pos e2] at b; exact .inr (.inl ⟨e2, b, hr.hs q g' b⟩)
        · rw [if_neg e2] at a b; exact .inr (.inr ⟨e1, e2, b, _, a⟩)
    rcases up j B1 h1 g1 with ⟨a1, a2, a3⟩ | ⟨a1, a2, a3⟩ | ⟨a1, a2, a3, _, a4⟩ <;> rcases up j' B2 h2 g2 with ⟨b1, b2, b3⟩ | ⟨b1, b2, b3⟩ | ⟨b1, b2, b3, _, b4⟩
    · rw [a1, b1]
    · exact absurd b2 a3
    · exact absurd (ht.dis j' k _ B g' b4 hB b3 a2) b1
    · exact absurd a2 b3
    · rw [a1, b1]
    · exact absurd (ht.dis j' k _ B g' b4 hB b3 a3) b1
    · exact absurd (ht.dis j k _ B g' a4 hB a3 b2) a1
    · exact absurd (ht.dis j k _ B g' a4 hB a3 b3) a1
    · exact ht.dis j j' _ _ g' a4 b4 a3 b3

theorem CellT.plain {us : Nat → Bool} {d : D} {v : Value} {Φ : Nat → Prop} (h : CellT w M us γ d v Φ) (hd : d.isRef = false) : Rep M d v ∧ d.isCell = true := by
  cases h with
  | pl _ _ _ h hc => exact ⟨h, hc⟩
  | ref => cases hd
  | jk => cases hd
  | own => cases hd

/-- The slice of a cell that owns it, of plain elements, becomes an own array. -/
theorem SimW.tcheckC (h : SimW X w0 M0 n τ ac w M γ) {k : Nat} {B : Arr} (hB : τ.f k = some B) {q : Nat} {e : TypeId} {sz : Nat} {zs : List D} (hq : (fl B.xs)[q]? = some (.own e sz zs)) (hpl : plainL zs) {d : Nat} (hd : τ.us d = false) (hdn : d < n ∨ 200000 ≤ d)
    {xs : List D} (hlen : xs.length = B.xs.length) (hw : ∀ x ∈ xs, x.width = B.sz) (hx : ∀ p, (fl xs)[p]? = if p = q then some (.ref d zs.length) else (fl B.xs)[p]?) {g : Nat} (hg : (γ k).ownBlock = some g) :
    ∃ u, w.cell? ⟨g, q, none⟩ = some u ∧ LenV u zs.length ∧ SimW X w0 M0 n ((τ.al d ⟨e, sz, zs⟩).gho [(1000000 + k, .fa ⟨B.e, B.sz, xs⟩)] []) ac w M (upd γ d u) := by
  obtain ⟨φ, cs, ψ, ht, hr⟩ := h.tree hB
  obtain ⟨u, hcu, hcell, _, hct⟩ := hr.at hg hq
  obtain ⟨hus, hck⟩ := f_us h hB
  have hdk : d ≠ k := fun e => by rw [e, hus] at hd; cases hd
  have hfd : τ.f d = none := by
    cases hf : τ.f d with
    | none => rfl
    | some B' => have := (f_us h hf).1; rw [hd] at this; cases this
  have hne : ∀ j, τ.us j = true → j ≠ d := fun j hj e => by rw [e, hd] at hj; cases hj
  have hup : ∀ j, τ.us j = true → upd γ d u j = γ j := fun j hj => by simp [upd, hne j hj]
  have hud : upd γ d u d = u := by simp [upd]
  generalize hτ : (τ.al d ⟨e, sz, zs⟩).gho [(1000000 + k, .fa ⟨B.e, B.sz, xs⟩)] [] = τ'
  have usd : ∀ j, τ'.us j = (if j = d then true else τ.us j) := fun j => by rw [← hτ, gho_us]; simp [Ab.al]
  have cd : ∀ j, τ'.c j = (if j = d then some ⟨e, sz, zs⟩ else τ.c j) := fun j => by rw [← hτ, gho_c]; rfl
  have shd : τ'.sh = τ.sh := by rw [← hτ, gho_sh]; rfl
  have umono : ∀ j, τ.us j = true → τ'.us j = true ∧ upd γ d u j = γ j := fun j hj => ⟨by rw [usd, if_neg (hne j hj)]; exact hj, hup j hj⟩
  have fs : ∀ j, τ'.f j = if j = k then some ⟨B.e, B.sz, xs⟩ else τ.f j := fun j => by
    rw [← hτ, gho_f]
    simp only [lkG]
    by_cases e1 : j = k
    · rw [if_pos (by omega), if_pos e1]
    · rw [if_neg (by omega), if_neg e1]; rfl
  have hslotB := h.slots (1000000 + k)
  rw [f_slot hB] at hslotB
  have hgo : Goes τ τ' γ (upd γ d u) := fun j hj => by
    have hjd := hne j hj
    refine ⟨(umono j hj).1, fun A' hA' => ⟨A', by rw [cd, if_neg hjd] at hA'; exact hA', rfl, Nat.le_refl _, hup j hj⟩, hup j hj, fun B' hB' => ?_⟩
    rw [fs] at hB'
    by_cases e1 : j = k
    · rw [if_pos e1] at hB'; cases hB'; exact ⟨B, e1 ▸ hB, rfl, Nat.le_of_eq hlen.symm⟩
    · rw [if_neg e1] at hB'; exact ⟨B', hB', rfl, Nat.le_refl _⟩
  cases hct with
  | pl _ _ _ h => cases h
  | own _ _ _ _ _ cs' ψ' ho' hp' hw' hc' hb' hs' hd' =>
  have hlen' : LenV u zs.length := own_len ho'
  have hcl : cs'.length = (fl zs).length := by rw [ho'.1, fl_len hw']
  have blk : ∀ g', u.ownBlock = some g' → ψ q g' := fun g' hg' => (hb' g' hg').1
  have dic : ∀ j A g', τ.c j = some A → u.ownBlock = some g' → (γ j).ownBlock ≠ some g' := fun j A g' hA hg' => (ht.new k B g' hB (hr.hs q g' (blk g' hg'))).2.2.2 j A hA
  have kept : CellT w M τ'.us (upd γ d u) (.own B.e B.sz xs) (γ k) (fun g => φ k g ∧ ¬ ψ q g) := by
    refine .own B.e B.sz xs _ _ cs (fun p g => if p = q then False else ψ p g) (by rw [hlen]; exact hr.ho) hr.hp hw (fun p d' u' h1 h2 => ?_) (fun g hg => ⟨⟨(hr.hb g hg).1, (hr.hb g hg).2 q⟩, fun p hp => ?_⟩) (fun p g hp => ?_) (fun p p' g h1 h2 => ?_)
    · rw [hx] at h1
      by_cases c : p = q
      · rw [if_pos c] at h1
        cases h1
        rw [c, hcu] at h2
        cases h2
        exact .ref d _ _ _ (by rw [usd]; simp) hlen' hud.symm
      · rw [if_neg c] at h1
        simp only [c, if_false]
        exact (hr.hc p d' u' h1 h2).keep (Mem.le_refl M) umono fun _ _ => rfl
    · split at hp
      · exact hp
      · exact (hr.hb g hg).2 p hp
    · split at hp
      · exact hp.elim
      · rename_i c
        exact ⟨hr.hs p g hp, fun hq' => c (hr.hd p q g hp hq')⟩
    · split at h1
      · exact h1.elim
      · split at h2
        · exact h2.elim
        · exact hr.hd p p' g h1 h2
  refine ⟨u, hcell, hlen', h.ghost (fun t => ?_) hgo (fun j A hA => ?_) (fun j j' A A' g' h1 h2 g1 g2 => ?_) (fun j v hj => ?_) ⟨fun j g => if j = k then φ k g ∧ ¬ ψ q g else φ j g, fun j B' hB' => ?_, fun j B' g' hB' hg' => ?_, fun j j' B1 B2 g' h1 h2 g1 g2 => ?_⟩⟩
  · rw [← hτ, gho_s]
    simp only [lkG]
    by_cases e1 : t = 1000000 + k
    · right; left
      rw [if_pos e1]
      refine ⟨_, rfl, fun j m hm => ?_⟩
      rw [hτ]
      obtain ⟨p, hp⟩ := List.getElem?_of_mem hm
      rw [hx] at hp
      split at hp
      · cases hp; rw [usd]; simp
      · exact (umono j (hslotB j m (List.mem_of_getElem? hp))).1
    · left
      rw [if_neg e1]; rfl
  · rw [cd] at hA
    rw [shd]
    by_cases e1 : j = d
    · rw [if_pos e1] at hA
      cases hA
      subst e1
      rw [hud]
      refine ⟨by rw [usd]; simp, ⟨⟨cs', ho', cellsOK_fl hw' (by rw [ho'.1]) (fun p d' u' h1 h2 => (hc' p d' u' h1 h2).plain (hpl d' (List.mem_of_getElem? h1))), fun g' hg' off sp u' hu' => ?_⟩, hp', fun g' hg' => (ht.new k B g' hB (hr.hs q g' (blk g' hg'))).2.1⟩⟩
      rw [(ht.new k B g' hB (hr.hs q g' (blk g' hg'))).2.2.1 off sp] at hu'; cases hu'
    · rw [if_neg e1] at hA
      obtain ⟨h1, h2⟩ := h.ow j A hA
      rw [hup j h1]
      exact ⟨(umono j h1).1, h2⟩
  · rw [cd] at h1 h2
    by_cases e1 : j = d
    · by_cases e2 : j' = d
      · rw [e1, e2]
      · exfalso
        rw [if_neg e2] at h2
        subst e1
        rw [hud] at g1
        rw [hup j' (h.ow j' A' h2).1] at g2
        exact dic j' A' g' h2 g1 g2
    · rw [if_neg e1] at h1
      rw [hup j (h.ow j A h1).1] at g1
      by_cases e2 : j' = d
      · exfalso
        subst e2
        rw [hud] at g2
        exact dic j A g' h1 g2 g1
      · rw [if_neg e2] at h2
        rw [hup j' (h.ow j' A' h2).1] at g2
        exact h.di j j' A A' g' h1 h2 g1 g2
  · obtain ⟨p1, p2, p3, p4⟩ := h.pin j v hj
    have hjd : j ≠ d := by omega
    rw [show upd γ d u j = γ j by simp [upd, hjd]]
    refine ⟨fun A hA => p3 A (by rw [cd, if_neg hjd] at hA; exact hA), fun B' hB' => ?_⟩
    rw [fs] at hB'
    by_cases e1 : j = k
    · exact p4 B (e1 ▸ hB)
    · rw [if_neg e1] at hB'; exact p4 B' hB'
  · rw [fs] at hB'
    rw [cd]
    by_cases e1 : j = k
    · rw [if_pos e1] at hB'
      cases hB'
      subst e1
      rw [if_neg (Ne.symm hdk)]
      simp only [if_true]
      rw [hup j hus]
      exact ⟨(umono j hus).1, hck, kept⟩
    · rw [if_neg e1] at hB'
      simp only [e1, if_false]
      obtain ⟨a, b, c⟩ := ht.row j B' hB'
      rw [if_neg (hne j a), hup j a]
      exact ⟨(umono j a).1, b, c.keep (Mem.le_refl M) umono fun _ _ => rfl⟩
  · rw [fs] at hB'
    have cc : ∀ g', (∃ j0 B0, τ.f j0 = some B0 ∧ φ j0 g') → (u.ownBlock = some g' → False) → g' < w.heap.size ∧ (w0.heap.size ≤ g' ∨ X.x g') ∧ (∀ off sp, M ⟨g', off, sp⟩ = none) ∧ ∀ i A, τ'.c i = some A → (upd γ d u i).ownBlock ≠ some g' := fun g' ⟨j0, B0, h1, h2⟩ hu => by
      obtain ⟨a, b, c, e⟩ := ht.new j0 B0 g' h1 h2
      refine ⟨a, b, c, fun i A hA => ?_⟩
      rw [cd] at hA
      by_cases e2 : i = d
      · rw [e2, hud]; exact fun h => hu h
      · rw [if_neg e2] at hA
        rw [hup i (h.ow i A hA).1]; exact e i A hA
    by_cases e1 : j = k
    · rw [if_pos e1] at hg'
      exact cc g' ⟨k, B, hB, hg'.1⟩ (fun hu => hg'.2 (blk g' hu))
    · rw [if_neg e1] at hB' hg'
      exact cc g' ⟨j, B', hB', hg'⟩ (fun hu => e1 (ht.dis j k B' B g' hB' hB hg' (hr.hs q g' (blk g' hu))))
  · rw [fs] at h1 h2
    have up : ∀ i B0, (if i = k then some ⟨B.e, B.sz, xs⟩ else τ.f i) = some B0 → (if i = k then φ k g' ∧ ¬ ψ q g' else φ i g') → φ i g' ∧ ∃ B0, τ.f i = some B0 := fun i B0 a b => by
      by_cases e1 : i = k
      · rw [if_pos e1] at b; exact ⟨e1 ▸ b.1, B, e1 ▸ hB⟩
      · rw [if_neg e1] at a b; exact ⟨b, B0, a⟩
    obtain ⟨a1, _, a2⟩ := up j B1 h1 g1
    obtain ⟨b1, _, b2⟩ := up j' B2 h2 g2
    exact ht.dis j j' _ _ g' a2 b2 a1 b1

/-- A new tree array: a new block, or what a call hands back. -/
theorem SimW.tal (h : SimW X w0 M0 n τ ac w M γ) {d : Nat} {B : Arr} {w' : World} {M' : Mem} {v : Value} (hd : τ.us d = false) (hdp : ∀ u, X.pn d ≠ some u)
    (hb : Below w.heap.size w w') (hle : Mem.le M M') (hmw : ∀ a v, M' a = some v → w'.cell? a = some v) (hmn : ∀ a v, M' a = some v → M a = some v ∨ w.heap.size ≤ a.block)
    {Φ : Nat → Prop} {us' : Nat → Bool} {γ' : Nat → Value} (hus : us' = fun j => decide (j = d) || τ.us j) (hγ : γ' = upd γ d v) (hrow : CellT w' M' us' γ' (.own B.e B.sz B.xs) v Φ) (hΦ : ∀ g, Φ g → w.heap.size ≤ g ∧ g < w'.heap.size ∧ ∀ off sp, M' ⟨g, off, sp⟩ = none)
    (href : ∀ j m, D.ref j m ∈ fl B.xs → us' j = true) : SimW X w0 M0 n (τ.gho [(1000000 + d, .fa B)] [d]) ac w' M' γ' := by
  have hs := h.call hb hle hmw hmn
  generalize hτ : τ.gho [(1000000 + d, .fa B)] [d] = τ'
  have usd : τ'.us = us' := by rw [hus, ← hτ]; funext j; rw [gho_us]; simp
  have cd : τ'.c = τ.c := by rw [← hτ, gho_c]
  have shd : τ'.sh = τ.sh := by rw [← hτ, gho_sh]
  have hne : ∀ j, τ.us j = true → j ≠ d := fun j hj e => by rw [e, hd] at hj; cases hj
  have hup : ∀ j, τ.us j = true → γ' j = γ j := fun j hj => by simp [hγ, upd, hne j hj]
  have hud : γ' d = v := by simp [hγ, upd]
  have umono : ∀ j, τ.us j = true → τ'.us j = true ∧ γ' j = γ j := fun j hj => ⟨by rw [usd, hus]; simp [hj], hup j hj⟩
  have fs : ∀ j, τ'.f j = if j = d then some B else τ.f j := fun j => by
    rw [← hτ, gho_f]
    simp only [lkG]
    by_cases e1 : j = d
    · rw [if_pos (by omega), if_pos e1]
    · rw [if_neg (by omega), if_neg e1]
  have hgo : Goes τ τ' γ γ' := fun j hj => by
    refine ⟨(umono j hj).1, fun A' hA' => ⟨A', by rw [cd] at hA'; exact hA', rfl, Nat.le_refl _, hup j hj⟩, hup j hj, fun B' hB' => ?_⟩
    rw [fs, if_neg (hne j hj)] at hB'
    exact ⟨B', hB', rfl, Nat.le_refl _⟩
  obtain ⟨φ, ht⟩ := h.tr
  have hblk : ∀ j B0 g, τ.f j = some B0 → φ j g → g < w.heap.size := fun j B0 g h1 h2 => (ht.new j B0 g h1 h2).1
  refine hs.ghost (fun t => ?_) hgo (fun j A hA => ?_) (fun j j' A A' g' h1 h2 g1 g2 => ?_) (fun j v' hj => ?_) ⟨fun j g => if j = d then Φ g else φ j g, fun j B' hB' => ?_, fun j B' g' hB' hg' => ?_, fun j j' B1 B2 g' h1 h2 g1 g2 => ?_⟩
  · rw [← hτ, gho_s]
    simp only [lkG]
    by_cases e1 : t = 1000000 + d
    · right; left
      rw [if_pos e1]
      exact ⟨_, rfl, fun j m hm => by rw [hτ, usd]; exact href j m hm⟩
    · left
      rw [if_neg e1]; rfl
  · rw [cd] at hA
    obtain ⟨h1, h2⟩ := hs.ow j A hA
    rw [shd, hup j h1]
    exact ⟨(umono j h1).1, h2⟩
  · rw [cd] at h1 h2
    rw [hup j (hs.ow j A h1).1] at g1
    rw [hup j' (hs.ow j' A' h2).1] at g2
    exact hs.di j j' A A' g' h1 h2 g1 g2
  · obtain ⟨p1, p2, p3, p4⟩ := h.pin j v' hj
    have hjd : j ≠ d := fun e => hdp v' (e ▸ hj)
    rw [show γ' j = γ j by simp [hγ, upd, hjd]]
    exact ⟨fun A hA => p3 A (by rw [cd] at hA; exact hA), fun B' hB' => p4 B' (by rw [fs, if_neg hjd] at hB'; exact hB')⟩
  · rw [fs] at hB'
    rw [cd]
    by_cases e1 : j = d
    · rw [if_pos e1] at hB'
      cases hB'
      subst e1
      simp only [if_true]
      rw [hud, usd]
      refine ⟨by rw [hus]; simp, ?_, hrow⟩
      cases hc : τ.c j with
      | none => rfl
      | some A => have := (h.ow j A hc).1; rw [hd] at this; cases this
    · rw [if_neg e1] at hB'
      simp only [e1, if_false]
      obtain ⟨a, b, c⟩ := ht.row j B' hB'
      rw [hup j a]
      exact ⟨(umono j a).1, b, c.keep hle umono fun g hg => hb.block g (hblk j B' g hB' hg)⟩
  · rw [fs] at hB'
    rw [cd]
    by_cases e1 : j = d
    · rw [if_pos e1] at hg'
      obtain ⟨a, b, c⟩ := hΦ g' hg'
      exact ⟨b, .inl (Nat.le_trans h.hsz a), c, fun i A hA e => by
        rw [hup i (h.ow i A hA).1] at e
        have := (h.ow i A hA).2.lt g' e
        omega⟩
    · rw [if_neg e1] at hB' hg'
      obtain ⟨a, b, c, e⟩ := ht.new j B' g' hB' hg'
      refine ⟨Nat.lt_of_lt_of_le a hb.size, b, fun off sp => ?_, fun i A hA => by rw [hup i (h.ow i A hA).1]; exact e i A hA⟩
      cases hm : M' ⟨g', off, sp⟩ with
      | none => rfl
      | some u =>
        rcases hmn _ u hm with h1 | h1
        · rw [c] at h1; cases h1
        · simp only at h1; omega
  · rw [fs] at h1 h2
    by_cases e1 : j = d
    · rw [if_pos e1] at g1
      by_cases e2 : j' = d
      · rw [e1, e2]
      · rw [if_neg e2] at g2 h2
        have := hblk j' B2 g' h2 g2
        have := (hΦ g' g1).1
        omega
    · rw [if_neg e1] at g1 h1
      by_cases e2 : j' = d
      · rw [if_pos e2] at g2
        have := hblk j B1 g' h1 g1
        have := (hΦ g' g2).1
        omega
      · rw [if_neg e2] at g2 h2
        exact ht.dis j j' B1 B2 g' h1 h2 g1 g2

theorem RepR.cellT {us : Nat → Bool} {d : D} {u : Value} (hd : RepR M us γ d u) (hc : d.isCell = true) (Φ : Nat → Prop) : CellT w M us γ d u Φ := by
  cases d with
  | ref j m => exact .ref j m u Φ hd.1 hd.2.1 hd.2.2
  | sc v => exact .pl _ u Φ hd hc
  | sl ys => exact .pl _ u Φ hd hc
  | agg fs => cases hc
  | own e z ys => exact .pl _ u Φ hd hc
  | jk => exact .pl _ u Φ hd hc

/-- An append onto a tree array has happened. -/
theorem SimW.tapp (h : SimW X w0 M0 n τ ac w M γ) {k d : Nat} {B : Arr} (hB : τ.f k = some B) (hd : τ.us d = false) (hdn : d < n)
    {w' : World} {v' : Value} {ys : List D} {cs news : List Value} {ψ : Nat → Nat → Prop} {φ : Nat → Nat → Prop} (ht : TrOK X.x w0 w M τ.us τ.c τ.f γ φ) (hr : TRow w M τ.us γ B (γ k) (φ k) cs ψ)
    (hyw : ∀ y ∈ ys, y.width = B.sz) (hy : ∀ (p : Nat) (d : D) (u : Value), (fl ys)[p]? = some d → news[p]? = some u → d.isCell = true ∧ RepR M τ.us γ d u) (hnl : news.length = (fl ys).length)
    (hg : w.grownBy w' (γ k).ownBlock) (hown : w'.ownsRow 0 B.e B.sz v' (B.xs.length + ys.length) (cs ++ news)) (hv' : ∀ g, v'.ownBlock = some g → (γ k).ownBlock = some g ∨ g = w.heap.size) :
    SimW X w0 M0 n (τ.gho [(1000000 + k, .junk), (1000000 + d, .fa ⟨B.e, B.sz, B.xs ++ ys⟩)] [d]) ac w' M (upd γ d v') := by
  obtain ⟨hus, hck⟩ := f_us h hB
  have hdk : d ≠ k := fun e => by rw [e, hus] at hd; cases hd
  generalize hτ : τ.gho [(1000000 + k, .junk), (1000000 + d, .fa ⟨B.e, B.sz, B.xs ++ ys⟩)] [d] = τ'
  have usd : ∀ j, τ'.us j = (decide (j = d) || τ.us j) := fun j => by rw [← hτ, gho_us]; simp
  have cd : τ'.c = τ.c := by rw [← hτ, gho_c]
  have shd : τ'.sh = τ.sh := by rw [← hτ, gho_sh]
  have hne : ∀ j, τ.us j = true → j ≠ d := fun j hj e => by rw [e, hd] at hj; cases hj
  have hup : ∀ j, τ.us j = true → upd γ d v' j = γ j := fun j hj => by simp [upd, hne j hj]
  have hud : upd γ d v' d = v' := by simp [upd]
  have umono : ∀ j, τ.us j = true → τ'.us j = true ∧ upd γ d v' j = γ j := fun j hj => ⟨by rw [usd]; simp [hj], hup j hj⟩
  have fs : ∀ j, τ'.f j = if j = k then none else if j = d then some ⟨B.e, B.sz, B.xs ++ ys⟩ else τ.f j := fun j => by
    rw [← hτ, gho_f]
    simp only [lkG]
    by_cases e1 : j = k
    · rw [if_pos (by omega), if_pos e1]
    · rw [if_neg (by omega), if_neg e1]
      by_cases e2 : j = d
      · rw [if_pos (by omega), if_pos e2]
      · rw [if_neg (by omega), if_neg e2]
  have hgo : Goes τ τ' γ (upd γ d v') := fun j hj => by
    refine ⟨(umono j hj).1, fun A' hA' => ⟨A', by rw [cd] at hA'; exact hA', rfl, Nat.le_refl _, hup j hj⟩, hup j hj, fun B' hB' => ?_⟩
    rw [fs] at hB'
    by_cases e1 : j = k
    · rw [if_pos e1] at hB'; cases hB'
    · rw [if_neg e1, if_neg (hne j hj)] at hB'; exact ⟨B', hB', rfl, Nat.le_refl _⟩
  have hMg : ∀ g, (γ k).ownBlock = some g → ∀ off sp, M ⟨g, off, sp⟩ = none := fun g hgk => (ht.new k B g hB (hr.hb g hgk).1).2.2.1
  have hblk : ∀ j B0 g, τ.f j = some B0 → φ j g → (γ k).ownBlock ≠ some g → w'.heap[g]? = w.heap[g]? := fun j B0 g h1 h2 h3 => hg.block g (ht.new j B0 g h1 h2).1 (Ne.symm h3)
  have hψ : ∀ p g, ψ p g → (γ k).ownBlock ≠ some g := fun p g h1 h2 => (hr.hb g h2).2 p h1
  have hcell : ∀ a u, M a = some u → w'.cell? a = some u := fun a u hau => by
    refine hg.cell (h.mw a u hau) (fun e => ?_)
    have := hMg a.block e.symm a.off a.spot
    rw [show (⟨a.block, a.off, a.spot⟩ : Addr) = a from rfl, hau] at this
    cases this
  have hslotB := h.slots (1000000 + k)
  rw [f_slot hB] at hslotB
  have newB : CellT w' M τ'.us (upd γ d v') (.own B.e B.sz (B.xs ++ ys)) v' (fun g => v'.ownBlock = some g ∨ ∃ p, ψ p g) := by
    refine .own B.e B.sz _ _ _ (cs ++ news) ψ (by rw [List.length_append]; exact hown) hr.hp (fun x hx => (List.mem_append.1 hx).elim (hr.hw x) (hyw x)) (fun p d' u h1 h2 => ?_) (fun g hg' => ⟨.inl hg', fun p hp => ?_⟩) (fun p g hp => .inr ⟨p, hp⟩) hr.hd
    · rw [fl_append] at h1
      have hl := hr.len
      by_cases c : p < cs.length
      · rw [List.getElem?_append_left (by omega)] at h1
        rw [List.getElem?_append_left c] at h2
        exact (hr.hc p d' u h1 h2).keep (Mem.le_refl M) umono fun g hg' => hblk k B g hB (hr.hs p g hg') (hψ p g hg')
      · rw [List.getElem?_append_right (by omega)] at h1
        rw [List.getElem?_append_right (by omega)] at h2
        rw [hl] at h2
        obtain ⟨a, b⟩ := hy _ d' u h1 h2
        exact (RepR.goes (Mem.le_refl M) umono b).cellT a _
    · rcases hv' g hg' with h1 | h1
      · exact hψ p g hp h1
      · have := (ht.new k B g hB (hr.hs p g hp)).1; omega
  refine ⟨h.dfr, h.fsz, hg.os.trans h.os, hg.tape.trans h.tape, hg.output.trans h.output, Nat.le_trans h.hsz hg.size, fun j hj hX => ?_, h.m0, hcell, h.mn, fun t => ?_, fun j A hA => ?_, fun j j' A A' g' h1 h2 g1 g2 => ?_, fun j v hj => ?_, h.nb,
    fun j g => if j = d then v'.ownBlock = some g ∨ ∃ p, ψ p g else φ j g, fun j B' hB' => ?_, fun j B' g' hB' hg' => ?_, fun j j' B1 B2 g' h1 h2 g1 g2 => ?_⟩
  · rw [hg.block j (Nat.lt_of_lt_of_le hj h.hsz) (fun e => ?_)]
    · exact h.frame j hj hX
    · rcases (ht.new k B j hB (hr.hb j e.symm).1).2.1 with h1 | h1
      · omega
      · exact hX h1
  · have hs : τ'.s t = (lkG t [(1000000 + k, S.junk), (1000000 + d, S.fa ⟨B.e, B.sz, B.xs ++ ys⟩)]).getD (τ.s t) := by rw [← hτ, gho_s]
    rw [hs]
    simp only [lkG]
    by_cases e1 : t = 1000000 + k
    · rw [if_pos e1]; trivial
    · rw [if_neg e1]
      by_cases e2 : t = 1000000 + d
      · rw [if_pos e2]
        intro j m hm
        have hm : D.ref j m ∈ fl (B.xs ++ ys) := hm
        rw [fl_append] at hm
        rcases List.mem_append.1 hm with hm | hm
        · exact (umono j (hslotB j m hm)).1
        · obtain ⟨p, hp⟩ := List.getElem?_of_mem hm
          have hpl : p < (fl ys).length := (List.getElem?_eq_some_iff.1 hp).1
          obtain ⟨_, b⟩ := hy p _ _ hp (List.getElem?_eq_getElem (by omega : p < news.length))
          exact (umono j b.1).1
      · rw [if_neg e2]
        exact (h.slots t).goes (Mem.le_refl M) hgo
  · rw [cd] at hA
    obtain ⟨h1, h2⟩ := h.ow j A hA
    rw [shd, hup j h1]
    refine ⟨(umono j h1).1, h2.keep (Mem.le_refl M) (fun g' hg' => hg.block g' (h2.lt g' hg') (fun e => ?_)) (fun _ _ _ _ _ hu => hu) id⟩
    exact (ht.new k B g' hB (hr.hb g' e.symm).1).2.2.2 j A hA hg'
  · rw [cd] at h1 h2
    rw [hup j (h.ow j A h1).1] at g1
    rw [hup j' (h.ow j' A' h2).1] at g2
    exact h.di j j' A A' g' h1 h2 g1 g2
  · obtain ⟨p1, p2, p3, p4⟩ := h.pin j v hj
    have hjd : j ≠ d := by omega
    rw [show upd γ d v' j = γ j by simp [upd, hjd]]
    refine ⟨p1, p2, fun A hA => p3 A (by rw [cd] at hA; exact hA), fun B' hB' => ?_⟩
    rw [fs] at hB'
    by_cases e1 : j = k
    · rw [if_pos e1] at hB'; cases hB'
    · rw [if_neg e1, if_neg hjd] at hB'; exact p4 B' hB'
  · rw [fs] at hB'
    rw [cd]
    by_cases e1 : j = k
    · rw [if_pos e1] at hB'; cases hB'
    · rw [if_neg e1] at hB'
      by_cases e2 : j = d
      · rw [if_pos e2] at hB'
        cases hB'
        subst e2
        simp only [if_true]
        rw [hud]
        refine ⟨by rw [usd]; simp, ?_, newB⟩
        cases hc : τ.c j with
        | none => rfl
        | some A => have := (h.ow j A hc).1; rw [hd] at this; cases this
      · rw [if_neg e2] at hB'
        simp only [e2, if_false]
        obtain ⟨a, b, c⟩ := ht.row j B' hB'
        rw [hup j a]
        exact ⟨(umono j a).1, b, c.keep (Mem.le_refl M) umono fun g hg' => hblk j B' g hB' hg' (fun e => e1 (ht.dis j k B' B g hB' hB hg' (hr.hb g e).1))⟩
  · rw [fs] at hB'
    rw [cd]
    have cc : ∀ g', (∃ j0 B0, τ.f j0 = some B0 ∧ φ j0 g') → g' < w'.heap.size ∧ (w0.heap.size ≤ g' ∨ X.x g') ∧ (∀ off sp, M ⟨g', off, sp⟩ = none) ∧ ∀ i A, τ.c i = some A → (upd γ d v' i).ownBlock ≠ some g' := fun g' ⟨j0, B0, h1, h2⟩ => by
      obtain ⟨a, b, c, e⟩ := ht.new j0 B0 g' h1 h2
      exact ⟨Nat.lt_of_lt_of_le a hg.size, b, c, fun i A hA => by rw [hup i (h.ow i A hA).1]; exact e i A hA⟩
    by_cases e1 : j = k
    · rw [if_pos e1] at hB'; cases hB'
    · rw [if_neg e1] at hB'
      by_cases e2 : j = d
      · rw [if_pos e2] at hg'
        rcases hg' with hg' | ⟨p, hg'⟩
        · rcases hv' g' hg' with h1 | h1
          · exact cc g' ⟨k, B, hB, (hr.hb g' h1).1⟩
          · subst h1
            refine ⟨(hown.lt _ hg').2, .inl h.hsz, fun off sp => no_mem_new h (Nat.le_refl _) off sp, fun i A hA e => ?_⟩
            rw [hup i (h.ow i A hA).1] at e
            have := (h.ow i A hA).2.lt _ e
            omega
        · exact cc g' ⟨k, B, hB, hr.hs p g' hg'⟩
      · rw [if_neg e2] at hB' hg'
        exact cc g' ⟨j, B', hB', hg'⟩
  · rw [fs] at h1 h2
    by_cases e1 : j = k
    · rw [if_pos e1] at h1; cases h1
    by_cases e1' : j' = k
    · rw [if_pos e1'] at h2; cases h2
    rw [if_neg e1] at h1
    rw [if_neg e1'] at h2
    have old : ∀ i B0, i ≠ k → τ.f i = some B0 → φ i g' → (v'.ownBlock = some g' ∨ ∃ p, ψ p g') → False := fun i B0 a b c d => by
      rcases d with d | ⟨p, d⟩
      · rcases hv' g' d with e | e
        · exact a (ht.dis i k B0 B g' b hB c (hr.hb g' e).1)
        · have := (ht.new i B0 g' b c).1; omega
      · exact a (ht.dis i k B0 B g' b hB c (hr.hs p g' d))
    by_cases e2 : j = d
    · rw [if_pos e2] at g1
      by_cases e2' : j' = d
      · rw [e2, e2']
      · rw [if_neg e2'] at h2 g2
        exact (old j' B2 e1' h2 g2 g1).elim
    · rw [if_neg e2] at h1 g1
      by_cases e2' : j' = d
      · rw [if_pos e2'] at g2
        exact (old j B1 e1 h1 g1 g2).elim
      · rw [if_neg e2'] at h2 g2
        exact ht.dis j j' B1 B2 g' h1 h2 g1 g2

/-! ### Arrays are put into the cells that refer to them -/
inductive RVc (τ : Ab) : D → D → List Nat → Prop
  | same (d : D) (h : NoRef d) : RVc τ d d []
  | jk (d : D) : RVc τ d .jk []
  | refc (k m : Nat) (A : Arr) (hk : τ.c k = some A) (hsh : τ.sh k = false) : RVc τ (.ref k m) (.own A.e A.sz A.xs) [k]
  | reff (k m : Nat) (B : Arr) (hk : τ.f k = some B) (hn : NoRefL B.xs) : RVc τ (.ref k m) (.own B.e B.sz B.xs) [k]
  | nilo (e : TypeId) (sz : Nat) (hp : 0 < sz) : RVc τ (.sc (.slice none 0 0)) (.own e sz []) []
inductive RVs (τ : Ab) : List D → List D → List Nat → Prop
  | nil : RVs τ [] [] []
  | cons {d d' : D} {u : List Nat} {ds ds' : List D} {us : List Nat} (h : RVc τ d d' u) (t : RVs τ ds ds' us) : RVs τ (d :: ds) (d' :: ds') (u ++ us)
structure RVL (τ : Ab) (xs xs' : List D) (U : List Nat) : Prop where
  len : xs'.length = xs.length
  wid : ∀ (j : Nat) (x x' : D), xs[j]? = some x → xs'[j]? = some x' → x'.width = x.width
  cells : RVs τ (fl xs) (fl xs') U
theorem RVs.pos {τ : Ab} {ds ds' : List D} {U : List Nat} (h : RVs τ ds ds' U) : U.Nodup → ∃ up : Nat → List Nat, (∀ (p : Nat) (d' : D), ds'[p]? = some d' → ∃ d, ds[p]? = some d ∧ RVc τ d d' (up p)) ∧ (∀ p j, j ∈ up p → j ∈ U) ∧ (∀ p p' j, j ∈ up p → j ∈ up p' → p = p') := by
  induction h with
  | nil => exact fun _ => ⟨fun _ => [], fun p d' h => by simp at h, fun p j h => by simp at h, fun p p' j h => by simp at h⟩
  | @cons d d' u ds ds' us h t ih =>
    intro hn
    obtain ⟨hn1, hn2, hn3⟩ := List.nodup_append.1 hn
    obtain ⟨up, h1, h2, h3⟩ := ih hn2
    refine ⟨fun p => match p with | 0 => u | p + 1 => up p, fun p x hx => ?_, fun p j hj => ?_, fun p p' j hj hj' => ?_⟩
    · cases p with
      | zero => simp at hx; subst hx; exact ⟨d, rfl, h⟩
      | succ p => simpa using h1 p x (by simpa using hx)
    · cases p with
      | zero => exact List.mem_append_left _ hj
      | succ p => exact List.mem_append_right _ (h2 p j hj)
    · cases p with
      | zero =>
        cases p' with
        | zero => rfl
        | succ p' => exact absurd rfl (hn3 j hj j (h2 p' j hj'))
      | succ p =>
        cases p' with
        | zero => exact absurd rfl (hn3 j hj' j (h2 p j hj))
        | succ p' => rw [h3 p p' j hj hj']
theorem RVs.app {τ : Ab} {a a' b b' : List D} {u v : List Nat} (h : RVs τ a a' u) (k : RVs τ b b' v) : RVs τ (a ++ b) (a' ++ b') (u ++ v) := by
  induction h with
  | nil => exact k
  | cons h t ih => rw [List.append_assoc]; exact .cons h ih
theorem RVs.same {τ : Ab} : ∀ {ds : List D}, (∀ d ∈ ds, NoRef d) → RVs τ ds ds []
  | [], _ => .nil
  | d :: ds, h => .cons (.same d (h d List.mem_cons_self)) (RVs.same fun x hx => h x (List.mem_cons_of_mem _ hx))
theorem RVL.same {τ : Ab} {xs : List D} (h : NoRefL xs) : RVL τ xs xs [] := ⟨rfl, fun j x x' h1 h2 => by rw [h1] at h2; cases h2; rfl, .same h⟩
theorem RVL.cons {τ : Ab} {x x' : D} {r r' : List D} {u us : List Nat} (hw : x'.width = x.width) (h : RVs τ x.fl x'.fl u) (t : RVL τ r r' us) : RVL τ (x :: r) (x' :: r') (u ++ us) :=
  ⟨by simp [t.len], fun j y y' h1 h2 => by
    cases j with
    | zero => simp at h1 h2; subst h1; subst h2; exact hw
    | succ j => exact t.wid j y y' (by simpa using h1) (by simpa using h2), by rw [fl_cons, fl_cons]; exact h.app t.cells⟩
theorem RVL.app {τ : Ab} {a a' b b' : List D} {u v : List Nat} (h : RVL τ a a' u) (k : RVL τ b b' v) : RVL τ (a ++ b) (a' ++ b') (u ++ v) := by
  refine ⟨by simp [h.len, k.len], fun j y y' h1 h2 => ?_, by rw [fl_append, fl_append]; exact h.cells.app k.cells⟩
  by_cases c : j < a.length
  · rw [List.getElem?_append_left c] at h1
    rw [List.getElem?_append_left (by rw [h.len]; exact c)] at h2
    exact h.wid j y y' h1 h2
  · rw [List.getElem?_append_right (by omega)] at h1
    rw [List.getElem?_append_right (by rw [h.len]; omega), h.len] at h2
    exact k.wid _ y y' h1 h2

def Ab.kills (τ : Ab) (U : List Nat) : Ab := { τ with c := fun j => if U.contains j then none else τ.c j }
def junkG (U : List Nat) : List (Nat × S) := U.map fun j => (1000000 + j, S.junk)
theorem lkG_junk (U : List Nat) (t : Nat) : lkG t (junkG U) = none ∨ lkG t (junkG U) = some .junk := by
  unfold junkG
  induction U with
  | nil => exact .inl rfl
  | cons j U ih =>
    simp only [List.map_cons, lkG]
    split
    · exact .inr rfl
    · exact ih
theorem lkG_junk_mem {U : List Nat} {j : Nat} : lkG (1000000 + j) (junkG U) = if j ∈ U then some .junk else none := by
  unfold junkG
  induction U with
  | nil => rfl
  | cons i U ih =>
    simp only [List.map_cons, lkG, ih, List.mem_cons]
    by_cases e : j = i
    · rw [if_pos (by omega), if_pos (.inl e)]
    · rw [if_neg (by omega)]
      by_cases e2 : j ∈ U
      · rw [if_pos e2, if_pos (.inr e2)]
      · rw [if_neg e2, if_neg (fun h => h.elim e e2)]
def Ab.res (τ : Ab) (k : Nat) (B : Arr) (U : List Nat) : Ab := (τ.kills U).gho ((1000000 + k, .fa B) :: junkG U) []

theorem RVc.noRef (h : SimW X w0 M0 n τ ac w M γ) {d d' : D} {u : List Nat} (hr : RVc τ d d' u) : NoRef d' := by
  cases hr with
  | same _ h => exact h
  | jk => exact .jk
  | refc k m A hk hsh =>
    obtain ⟨_, ⟨⟨cs, ho, hcs, _⟩, hp, _⟩⟩ := h.ow k A hk
    obtain ⟨hw, hc⟩ := fl_cellsOK hp hcs
    refine .own _ _ _ fun x hx => ?_
    obtain ⟨p, hp'⟩ := List.getElem?_of_mem hx
    have hpl := (List.getElem?_eq_some_iff.1 hp').1
    rw [fl_len hw] at hpl
    obtain ⟨a, b⟩ := hc p x _ hp' (List.getElem?_eq_getElem (by rw [hcs.1]; exact hpl))
    cases x with
    | sc v => exact .sc v
    | sl ys => exact .sl ys
    | agg fs => cases b
    | ref j m => cases a
    | own e z ys => cases a
    | jk => cases a
  | reff k m B hk hn => exact .own _ _ _ hn
  | nilo e sz hp => exact .own _ _ _ fun x hx => by simp [fl] at hx
theorem RVL.noRef (h : SimW X w0 M0 n τ ac w M γ) {xs xs' : List D} {U : List Nat} (hr : RVL τ xs xs' U) : NoRefL xs' := by
  have key : ∀ {ds ds' : List D} {U : List Nat}, RVs τ ds ds' U → ∀ d ∈ ds', NoRef d := fun {ds ds' U} hs => by
    induction hs with
    | nil => intro d hd; simp at hd
    | cons hc _ ih =>
      intro d hd
      rcases List.mem_cons.1 hd with rfl | hd
      · exact hc.noRef h
      · exact ih d hd
  exact key hr.cells

theorem SimW.tres (h : SimW X w0 M0 n τ ac w M γ) {k : Nat} {B : Arr} (hB : τ.f k = some B) {xs' : List D} {U : List Nat} (hr : RVL τ B.xs xs' U) (hn : U.Nodup) (hk : k ∉ U) : SimW X w0 M0 n (τ.res k ⟨B.e, B.sz, xs'⟩ U) ac w M γ := by
  obtain ⟨φ, cs, ψ, ht, hrow⟩ := h.tree hB
  obtain ⟨up, u1, u2, u3⟩ := hr.cells.pos hn
  obtain ⟨hus, hck⟩ := f_us h hB
  generalize hτ : τ.res k ⟨B.e, B.sz, xs'⟩ U = τ'
  have usd : τ'.us = τ.us := by rw [← hτ]; unfold Ab.res; funext j; rw [gho_us]; simp [Ab.kills]
  have cd : ∀ j, τ'.c j = if j ∈ U then none else τ.c j := fun j => by rw [← hτ]; unfold Ab.res; rw [gho_c]; simp [Ab.kills]
  have shd : τ'.sh = τ.sh := by rw [← hτ]; unfold Ab.res; rw [gho_sh]; rfl
  have fs : ∀ j, τ'.f j = if j = k then some ⟨B.e, B.sz, xs'⟩ else if j ∈ U then none else τ.f j := fun j => by
    rw [← hτ]; unfold Ab.res; rw [gho_f]
    simp only [lkG]
    by_cases e1 : j = k
    · rw [if_pos (by omega), if_pos e1]
    · rw [if_neg (by omega), if_neg e1, lkG_junk_mem]
      by_cases e2 : j ∈ U
      · rw [if_pos e2, if_pos e2]
      · rw [if_neg e2, if_neg e2]; rfl
  have clive : ∀ {j A}, τ'.c j = some A → j ∉ U ∧ τ.c j = some A := fun {j A} hA => by
    rw [cd] at hA
    split at hA
    · cases hA
    · rename_i e; exact ⟨e, hA⟩
  have hgo : Goes τ τ' γ γ := fun j hj => by
    refine ⟨by rw [usd]; exact hj, fun A' hA' => ⟨A', (clive hA').2, rfl, Nat.le_refl _, rfl⟩, rfl, fun B' hB' => ?_⟩
    rw [fs] at hB'
    by_cases e1 : j = k
    · rw [if_pos e1] at hB'; cases hB'; exact ⟨B, e1 ▸ hB, rfl, Nat.le_of_eq hr.len.symm⟩
    · rw [if_neg e1] at hB'
      split at hB'
      · cases hB'
      · exact ⟨B', hB', rfl, Nat.le_refl _⟩
  -- the blocks of a key
  let foot : Nat → Nat → Prop := fun j g => (∃ A, τ.c j = some A ∧ τ.sh j = false ∧ (γ j).ownBlock = some g) ∨ ((∃ B, τ.f j = some B) ∧ φ j g)
  have foot_k : ∀ j g, j ∈ U → foot j g → φ k g → False := fun j g hj hf hg => by
    rcases hf with ⟨A, hA, _, e⟩ | ⟨⟨B', hB'⟩, hg'⟩
    · exact (ht.new k B g hB hg).2.2.2 j A hA e
    · exact hk ((ht.dis j k B' B g hB' hB hg' hg) ▸ hj)
  have foot_2 : ∀ j j' g, foot j g → foot j' g → j = j' := fun j j' g h1 h2 => by
    rcases h1 with ⟨A, hA, _, e⟩ | ⟨⟨B1, hB1⟩, g1⟩ <;> rcases h2 with ⟨A', hA', _, e'⟩ | ⟨⟨B2, hB2⟩, g2⟩
    · exact h.di j j' A A' g hA hA' e e'
    · exact absurd e ((ht.new j' B2 g hB2 g2).2.2.2 j A hA)
    · exact absurd e' ((ht.new j B1 g hB1 g1).2.2.2 j' A' hA')
    · exact ht.dis j j' B1 B2 g hB1 hB2 g1 g2
  have foot_new : ∀ j g, j ∈ U → foot j g → g < w.heap.size ∧ (w0.heap.size ≤ g ∨ X.x g) ∧ (∀ off sp, M ⟨g, off, sp⟩ = none) ∧ ∀ i A, τ'.c i = some A → (γ i).ownBlock ≠ some g := fun j g hj hf => by
    rcases hf with ⟨A, hA, hs, e⟩ | ⟨⟨B', hB'⟩, hg'⟩
    · obtain ⟨_, ho⟩ := h.ow j A hA
      refine ⟨ho.lt g e, ho.new g e, fun off sp => ?_, fun i A' hA' e' => (clive hA').1 ((h.di i j A' A g (clive hA').2 hA e' e) ▸ hj)⟩
      cases hm : M ⟨g, off, sp⟩ with
      | none => rfl
      | some u =>
        obtain ⟨⟨_, _, _, hM⟩, _⟩ := ho
        have := (hM g e off sp u hm).1
        rw [hs] at this; cases this
    · obtain ⟨a, b, c, d⟩ := ht.new j B' g hB' hg'
      exact ⟨a, b, c, fun i A' hA' => d i A' (clive hA').2⟩
  have newB : CellT w M τ'.us γ (.own B.e B.sz xs') (γ k) (fun g => φ k g ∨ ∃ j ∈ U, foot j g) := by
    have hw' : ∀ x ∈ xs', x.width = B.sz := fun x hx => by
      obtain ⟨j, hj⟩ := List.getElem?_of_mem hx
      have hjl := (List.getElem?_eq_some_iff.1 hj).1
      rw [hr.len] at hjl
      have h1 : B.xs[j]? = some (B.xs[j]'hjl) := List.getElem?_eq_getElem hjl
      rw [hr.wid j _ x h1 hj]
      exact hrow.hw _ (List.mem_of_getElem? h1)
    refine .own B.e B.sz xs' _ _ cs (fun p g => (up p = [] ∧ ψ p g) ∨ ∃ j ∈ up p, foot j g) (by rw [hr.len]; exact hrow.ho) hrow.hp hw' (fun p d' u h1 h2 => ?_) (fun g hg => ⟨.inl (hrow.hb g hg).1, fun p hp => ?_⟩) (fun p g hp => ?_) (fun p p' g h1 h2 => ?_)
    · obtain ⟨d, hd, hc⟩ := u1 p d' h1
      have hcell := hrow.hc p d u hd h2
      generalize hup : up p = l at hc ⊢
      cases hc with
      | same _ hn => exact ((hcell.keep (Mem.le_refl M) (fun j hj => ⟨by rw [usd]; exact hj, rfl⟩) fun _ _ => rfl)).wide fun g hg => .inl ⟨rfl, hg⟩
      | jk => exact .jk _ _ hcell.oneCell
      | refc j m A hj hsh =>
        cases hcell with
        | pl _ _ _ h => cases h
        | ref _ _ _ _ _ _ hv =>
          subst hv
          obtain ⟨_, ⟨⟨cs', ho', hcs', _⟩, hp', _⟩⟩ := h.ow j A hj
          obtain ⟨hwA, hcA⟩ := fl_cellsOK hp' hcs'
          exact .own A.e A.sz A.xs _ _ cs' (fun _ _ => False) ho' hp' hwA (fun p d u h1 h2 => .pl d u _ (hcA p d u h1 h2).1 (hcA p d u h1 h2).2) (fun g hg => ⟨.inr ⟨j, List.mem_singleton.2 rfl, .inl ⟨A, hj, hsh, hg⟩⟩, fun _ h => h⟩) (fun _ _ h => h.elim) (fun _ _ _ h => h.elim)
      | reff j m B' hj hn =>
        cases hcell with
        | pl _ _ _ h => cases h
        | ref _ _ _ _ _ _ hv =>
          subst hv
          exact ((ht.row j B' hj).2.2.keep (Mem.le_refl M) (fun i hi => ⟨by rw [usd]; exact hi, rfl⟩) fun _ _ => rfl).wide fun g hg => .inr ⟨j, List.mem_singleton.2 rfl, .inr ⟨⟨B', hj⟩, hg⟩⟩
      | nilo e sz hp =>
        cases hcell with
        | pl _ _ _ h =>
          cases h
          exact .own e sz [] _ _ [] (fun _ _ => False) ⟨by simp, .inl ⟨rfl, rfl⟩⟩ hp (fun x hx => by simp at hx) (fun p d u h1 h2 => by simp [fl] at h1) (fun g hg => by cases hg) (fun _ _ h => h.elim) (fun _ _ _ h => h.elim)
    · rcases hp with ⟨_, hp⟩ | ⟨j, hj, hp⟩
      · exact (hrow.hb g hg).2 p hp
      · exact foot_k j g (u2 p j hj) hp (hrow.hb g hg).1
    · rcases hp with ⟨_, hp⟩ | ⟨j, hj, hp⟩
      · exact .inl (hrow.hs p g hp)
      · exact .inr ⟨j, u2 p j hj, hp⟩
    · rcases h1 with ⟨_, h1⟩ | ⟨j, hj, h1⟩ <;> rcases h2 with ⟨_, h2⟩ | ⟨j', hj', h2⟩
      · exact hrow.hd p p' g h1 h2
      · exact (foot_k j' g (u2 p' j' hj') h2 (hrow.hs p g h1)).elim
      · exact (foot_k j g (u2 p j hj) h1 (hrow.hs p' g h2)).elim
      · have := foot_2 j j' g h1 h2
        subst this
        exact u3 p p' j hj hj'
  have hnr := hr.noRef h
  refine h.ghost (fun t => ?_) hgo (fun j A hA => ?_) (fun j j' A A' g' h1 h2 g1 g2 => h.di j j' A A' g' (clive h1).2 (clive h2).2 g1 g2) (fun j v hj => ?_) ⟨fun j g => if j = k then φ k g ∨ ∃ j ∈ U, foot j g else φ j g, fun j B' hB' => ?_, fun j B' g' hB' hg' => ?_, fun j j' B1 B2 g' h1 h2 g1 g2 => ?_⟩
  · rw [← hτ]; unfold Ab.res; rw [gho_s]
    simp only [lkG]
    by_cases e1 : t = 1000000 + k
    · right; left
      rw [if_pos e1]
      refine ⟨_, rfl, fun j m hm => ?_⟩
      have := hnr _ hm
      cases this
    · rw [if_neg e1]
      rcases lkG_junk U t with e | e <;> rw [e]
      · exact .inl rfl
      · exact .inr (.inr rfl)
  · obtain ⟨e, hA⟩ := clive hA
    obtain ⟨h1, h2⟩ := h.ow j A hA
    rw [usd, shd]
    exact ⟨h1, h2⟩
  · obtain ⟨p1, p2, p3, p4⟩ := h.pin j v hj
    refine ⟨fun A hA => p3 A (clive hA).2, fun B' hB' => ?_⟩
    rw [fs] at hB'
    by_cases e1 : j = k
    · exact p4 B (e1 ▸ hB)
    · rw [if_neg e1] at hB'
      split at hB'
      · cases hB'
      · exact p4 B' hB'
  · rw [fs] at hB'
    rw [usd, cd]
    by_cases e1 : j = k
    · rw [if_pos e1] at hB'
      cases hB'
      subst e1
      simp only [if_true]
      refine ⟨hus, ?_, by rw [← usd]; exact newB⟩
      rw [if_neg hk]; exact hck
    · rw [if_neg e1] at hB'
      simp only [e1, if_false]
      split at hB'
      · cases hB'
      · rename_i e2
        rw [if_neg e2]
        exact ht.row j B' hB'
  · rw [fs] at hB'
    have old : ∀ j B0, τ.f j = some B0 → φ j g' → g' < w.heap.size ∧ (w0.heap.size ≤ g' ∨ X.x g') ∧ (∀ off sp, M ⟨g', off, sp⟩ = none) ∧ ∀ i A, τ'.c i = some A → (γ i).ownBlock ≠ some g' := fun j B0 h1 h2 => by
      obtain ⟨a, b, c, d⟩ := ht.new j B0 g' h1 h2
      exact ⟨a, b, c, fun i A' hA' => d i A' (clive hA').2⟩
    by_cases e1 : j = k
    · rw [if_pos e1] at hg'
      rcases hg' with hg' | ⟨i, hi, hg'⟩
      · exact old k B hB hg'
      · exact foot_new i g' hi hg'
    · rw [if_neg e1] at hB' hg'
      split at hB'
      · cases hB'
      · exact old j B' hB' hg'
  · rw [fs] at h1 h2
    have case2 : ∀ j B1, j ≠ k → (if j ∈ U then none else τ.f j) = some B1 → φ j g' → (φ k g' ∨ ∃ i ∈ U, foot i g') → False := fun j B1 e1 h1 g1 g2 => by
      split at h1
      · cases h1
      · rename_i e3
        rcases g2 with g2 | ⟨i, hi, g2⟩
        · exact e1 (ht.dis j k B1 B g' h1 hB g1 g2)
        · exact e3 ((foot_2 i j g' g2 (.inr ⟨⟨B1, h1⟩, g1⟩)) ▸ hi)
    by_cases e1 : j = k
    · by_cases e2 : j' = k
      · rw [e1, e2]
      · rw [if_pos e1] at g1
        rw [if_neg e2] at h2 g2
        exact (case2 j' B2 e2 h2 g2 g1).elim
    · rw [if_neg e1] at h1 g1
      by_cases e2 : j' = k
      · rw [if_pos e2] at g2
        exact (case2 j B1 e1 h1 g1 g2).elim
      · rw [if_neg e2] at h2 g2
        split at h1
        · cases h1
        · split at h2
          · cases h2
          · exact ht.dis j j' B1 B2 g' h1 h2 g1 g2
end
end Go.DL

namespace Go.DL
open Go.RowKit
section
variable {X : Env} {w0 : World} {M0 : Mem} {n : Nat} {τ : Ab} {ac : Act} {w : World} {M : Mem} {γ : Nat → Value} {P : Program} {T : Tys}

/-! ### Steps on tree arrays -/
theorem Seen.ofS {wild : Bool} {o : Oper} {s : S} (hwf : ∀ k, refS s k → ReachK o τ k)
    (hrun : ∀ τ0, Like wild o τ τ0 → ∀ {X : Env} {w0 : World} {M0 : Mem} {n : Nat} {ac : Act} {w : World} {M : Mem} {γ : Nat → Value}, SimW X w0 M0 n τ0 ac w M γ → ∃ v, (execOp ac.eval o).run P w = .ok (.value v) w ∧ RepS M τ0 γ s v) : Seen P wild o τ { s } := by
  refine ⟨fun _ => ⟨rfl, rfl, fun p hp => by simp at hp⟩, fun k h => (by cases h), fun k A h => (by cases h), fun k h => (by simp at h), fun k A h => (by cases h), fun k h => (by simp at h), fun p h => (by simp at h), fun k hk => ?_, fun τ0 hl => ?_⟩
  · rcases hk with hk | ⟨p, hp, _⟩
    · exact .inl (hwf k hk)
    · simp at hp
  · intro X w0 M0 n ac w M γ hd hs Q
    obtain ⟨v, h1, h2⟩ := hrun τ0 hl hs
    exact wp_value h1 (.of (hs.put hd h2))

theorem refs_of {o : Oper} {x : Operand} {k : Nat} (hm : x ∈ o.op.operands) (h : refS (τ.val x) k) : Refs o τ k := ⟨x, hm, h⟩
theorem reach_fl {o : Oper} {k : Nat} {B : Arr} (hr : Refs o τ k) (hB : τ.f k = some B) {d : D} (hd : d ∈ fl B.xs) {j : Nat} (hj : refD d j) : ReachK o τ j := .inr ⟨k, B, hr, hB, d, hd, hj⟩
theorem fl_field {B : Arr} {i : Nat} {fs : List D} (hw : ∀ x ∈ B.xs, x.width = B.sz) (hi : B.xs[i]? = some (.agg fs)) {f : Nat} {y : D} (hf : fs[f]? = some y) : (fl B.xs)[i * B.sz + f]? = some y := by
  have h1 := hw _ (List.mem_of_getElem? hi)
  have h2 := (List.getElem?_eq_some_iff.1 hf).1
  rw [fl_get hw hi (by have : fs.length = B.sz := h1; omega)]
  exact hf
theorem fl_elem {B : Arr} {i : Nat} {y : D} (hw : ∀ x ∈ B.xs, x.width = B.sz) (hi : B.xs[i]? = some y) (hy : y.isCell = true) : (fl B.xs)[i * B.sz]? = some y := by
  have h1 := hw _ (List.mem_of_getElem? hi)
  have h2 := width_one hy
  have := fl_get hw hi (p := 0) (by omega)
  rw [Nat.add_zero] at this
  rw [this]
  cases y <;> first | rfl | cases hy
theorem CellT.repR {us : Nat → Bool} {d : D} {v : Value} {Φ : Nat → Prop} (h : CellT w M us γ d v Φ) (hd : ∀ e z ys, d ≠ .own e z ys) (hj : d ≠ .jk) : d.isCell = true ∧ RepR M us γ d v := by
  cases h with
  | pl _ _ _ h hc => exact ⟨hc, by cases d <;> first | exact h | cases h⟩
  | ref k m _ _ h hl hv => exact ⟨rfl, h, hl, hv⟩
  | jk => exact absurd rfl hj
  | own e z ys => exact absurd rfl (hd e z ys)
/-- A cell that owns nothing. -/
def okR : D → Bool
  | .own _ _ _ => false
  | .jk => false
  | .agg _ => false
  | _ => true
theorem CellT.okR {us : Nat → Bool} {d : D} {v : Value} {Φ : Nat → Prop} (h : CellT w M us γ d v Φ) (hd : okR d = true) : d.isCell = true ∧ RepR M us γ d v :=
  h.repR (fun e z ys he => by subst he; cases hd) (fun he => by subst he; cases hd)
theorem RefS.okR {y : D} {s : S} (h : RefS y s) (hy : y.isCell = true) : Go.DL.okR y = true := by
  cases h with
  | d _ h =>
    cases y with
    | agg fs => cases hy
    | sc v => rfl
    | sl xs => rfl
    | ref k m => rfl
    | own e z ys => cases h
    | jk => cases h
  | av => rfl
  | fv => rfl
theorem RefS.refs {y : D} {s : S} (h : RefS y s) {k : Nat} (hk : refS s k) : refD y k := by
  cases h with
  | d _ h => exact hk.elim
  | av => exact hk
  | fv => exact hk

theorem Seen.loadF {o : Oper} {t : TypeId} {x : Operand} {k i f : Nat} {B : Arr} {fs : List D} {y : D} {s : S} {ty : Ty} (hT : TyOK P t ty) (ho : o.op = .load t x) (hx : τ.val x = .ff k i f) (hB : τ.f k = some B) (hi : B.xs[i]? = some (.agg fs)) (hf : fs[f]? = some y)
    (hy : y.isCell = true) (hs : RefS y s) (hfit : LoadFit ty y) : Seen P false o τ { s } := by
  have hm : x ∈ o.op.operands := by rw [ho]; simp [Op.operands]
  have hr : Refs o τ k := refs_of hm (by rw [hx]; rfl)
  refine .ofS (fun j hj => reach_fl hr hB (List.mem_flatMap.2 ⟨_, List.mem_of_getElem? hi, List.mem_of_getElem? hf⟩) (hs.refs hj)) fun τ0 hl X w0 M0 n ac w M γ h => ?_
  have hB0 : τ0.f k = some B := by rw [(hl.c k hr).2]; exact hB
  have h1 := h.val x
  rw [hl.v x hm, hx] at h1
  obtain ⟨hil, g, hg, hv⟩ := h1.2 B hB0
  obtain ⟨φ, cs, ψ, ht, hrow⟩ := h.tree hB0
  obtain ⟨u, _, hcell, _, hct⟩ := hrow.at hg (fl_field hrow.hw hi hf)
  obtain ⟨_, hrep⟩ := hct.okR (hs.okR hy)
  refine ⟨u, ?_, hrep.slot h hs⟩
  simp only [execOp, ho, hv, Sem.run_bind, run_load_cell hT hfit hy hcell, Result.andThen_ok]
  rfl

theorem Seen.loadE {o : Oper} {t : TypeId} {x : Operand} {k i : Nat} {B : Arr} {y : D} {s : S} {ty : Ty} (hT : TyOK P t ty) (ho : o.op = .load t x) (hx : τ.val x = .fe k i) (hB : τ.f k = some B) (hi : B.xs[i]? = some y) (hy : y.isCell = true) (hs : RefS y s) (hfit : LoadFit ty y) :
    Seen P false o τ { s } := by
  have hm : x ∈ o.op.operands := by rw [ho]; simp [Op.operands]
  have hr : Refs o τ k := refs_of hm (by rw [hx]; rfl)
  have hfl : y ∈ y.fl := by cases y <;> first | exact List.mem_singleton.2 rfl | cases hy
  refine .ofS (fun j hj => reach_fl hr hB (List.mem_flatMap.2 ⟨_, List.mem_of_getElem? hi, hfl⟩) (hs.refs hj)) fun τ0 hl X w0 M0 n ac w M γ h => ?_
  have hB0 : τ0.f k = some B := by rw [(hl.c k hr).2]; exact hB
  have h1 := h.val x
  rw [hl.v x hm, hx] at h1
  obtain ⟨hil, g, hg, hv⟩ := h1.2 B hB0
  obtain ⟨φ, cs, ψ, ht, hrow⟩ := h.tree hB0
  obtain ⟨u, _, hcell, _, hct⟩ := hrow.at hg (fl_elem hrow.hw hi hy)
  obtain ⟨_, hrep⟩ := hct.okR (hs.okR hy)
  refine ⟨u, ?_, hrep.slot h hs⟩
  simp only [execOp, ho, hv, Sem.run_bind, run_load_cell hT hfit hy hcell, Result.andThen_ok]
  rfl

/-- The cells of a struct element, read. -/
theorem load_struct {t : TypeId} {ty : Ty} (hT : TyOK P t ty) {us : Nat → Bool} {B : Arr} {v : Value} {Φ : Nat → Prop} {cs : List Value} {ψ : Nat → Nat → Prop} (hrow : TRow w M us γ B v Φ cs ψ) {g : Nat} (hg : v.ownBlock = some g) {i : Nat} {fs : List D} (hi : B.xs[i]? = some (.agg fs)) (hfit : LoadFit ty (.agg fs)) :
    ∃ us' : List Value, us'.length = fs.length ∧ (Instr.loadAt t (.pointer (some ⟨g, i * B.sz, none⟩))).run P w = .ok (.agg us'.toArray) w ∧ ∀ (f : Nat) (d : D), fs[f]? = some d → ∃ u, us'[f]? = some u ∧ w.cell? ⟨g, i * B.sz + f, none⟩ = some u ∧ CellT w M us γ d u (ψ (i * B.sz + f)) := by
  have key : ∀ (f : Nat) (d : D), fs[f]? = some d → ∃ u, w.cell? ⟨g, i * B.sz + f, none⟩ = some u ∧ CellT w M us γ d u (ψ (i * B.sz + f)) := fun f d hf => by
    obtain ⟨u, _, h2, _, h4⟩ := hrow.at hg (fl_field hrow.hw hi hf)
    exact ⟨u, h2, h4⟩
  let us' : List Value := (List.range fs.length).map fun f => (w.cell? ⟨g, i * B.sz + f, none⟩).getD undef
  have hl : us'.length = fs.length := by simp [us']
  have hget : ∀ f, f < fs.length → us'[f]? = some ((w.cell? ⟨g, i * B.sz + f, none⟩).getD undef) := fun f hf => by simp [us', hf]
  refine ⟨us', hl, run_load_agg hT hfit hl (fun j v hv => ?_), fun f d hf => ?_⟩
  · have hj : j < fs.length := by rw [← hl]; exact (List.getElem?_eq_some_iff.1 hv).1
    obtain ⟨u, h1, _⟩ := key j _ (List.getElem?_eq_getElem hj)
    rw [hget j hj, h1] at hv
    rw [Addr.add_lit, h1]
    simpa using hv
  · obtain ⟨u, h1, h2⟩ := key f d hf
    exact ⟨u, by rw [hget f (List.getElem?_eq_some_iff.1 hf).1, h1]; rfl, h1, h2⟩

theorem Seen.loadS {o : Oper} {t : TypeId} {x : Operand} {k i : Nat} {B : Arr} {fs : List D} {ty : Ty} (hT : TyOK P t ty) (ho : o.op = .load t x) (hx : τ.val x = .fe k i) (hB : τ.f k = some B) (hi : B.xs[i]? = some (.agg fs)) (hy : ∀ d ∈ fs, okR d = true) (hfit : LoadFit ty (.agg fs)) :
    Seen P false o τ { s := .dr fs } := by
  have hm : x ∈ o.op.operands := by rw [ho]; simp [Op.operands]
  have hr : Refs o τ k := refs_of hm (by rw [hx]; rfl)
  refine .ofS (fun j ⟨d, hd, hj⟩ => reach_fl hr hB (List.mem_flatMap.2 ⟨_, List.mem_of_getElem? hi, hd⟩) hj) fun τ0 hl X w0 M0 n ac w M γ h => ?_
  have hB0 : τ0.f k = some B := by rw [(hl.c k hr).2]; exact hB
  have h1 := h.val x
  rw [hl.v x hm, hx] at h1
  obtain ⟨hil, g, hg, hv⟩ := h1.2 B hB0
  obtain ⟨φ, cs, ψ, ht, hrow⟩ := h.tree hB0
  obtain ⟨us', hl', hrun, hcells⟩ := load_struct hT hrow hg hi hfit
  refine ⟨_, ?_, us'.toArray, rfl, by simp [hl'], fun f d hf => ?_⟩
  · simp only [execOp, ho, hv, Sem.run_bind, hrun, Result.andThen_ok]
    rfl
  · obtain ⟨u, h2, _, h4⟩ := hcells f d hf
    have e : us'.toArray.getD f undef = u := by simp [h2]
    rw [e]
    exact h4.okR (hy d (List.mem_of_getElem? hf))

theorem Seen.index {o : Oper} {t : TypeId} {x ix : Operand} {e : TypeId} {ety : Ty} {k m j : Nat} {kd : IntKind} {B : Arr} (hT : TOK P T) (hm : (t, .sl e) ∈ T) (hE : (e, ety) ∈ T) (ho : o.op = .indexAddr t x ix) (hx : τ.val x = .fv k m) (hB : τ.f k = some B) (hsz : ety.width = B.sz)
    (hi : τ.val ix = .d (.sc (.int kd (j : Int)))) (hj : j < m) : Seen P false o τ { s := .fe k j } := by
  have hmx : x ∈ o.op.operands := by rw [ho]; simp [Op.operands]
  have hmi : ix ∈ o.op.operands := by rw [ho]; simp [Op.operands]
  have hr : Refs o τ k := refs_of hmx (by rw [hx]; rfl)
  refine .ofS (fun j' hj' => by rw [show j' = k from hj']; exact .inl hr) fun τ0 hl X w0 M0 n ac w M γ h => ?_
  have hB0 : τ0.f k = some B := by rw [(hl.c k hr).2]; exact hB
  have h1 := h.val x
  rw [hl.v x hmx, hx] at h1
  have h2 := h.val ix
  rw [hl.v ix hmi, hi] at h2
  have e2 := rep_sc h2
  obtain ⟨⟨hus, _⟩, hlive⟩ := h1
  obtain ⟨hmB, hv⟩ := hlive B hB0
  obtain ⟨φ, cs, ψ, ht, hrow⟩ := h.tree hB0
  have hu := (hT _ hm).und
  simp only at hu
  have hsr := run_sizeOf (hT _ hE) (P := P) w
  simp only at hsr
  rcases own_form hrow.ho with ⟨hg, hn⟩ | ⟨g, cap, hg, hnc, hcm⟩
  · have : B.xs.length = 0 := hn; omega
  · rw [hg] at hv
    refine ⟨.pointer (some ⟨g, j * B.sz, none⟩), ?_, ⟨hus, _, rfl, rfl⟩, fun B' hB' => ?_⟩
    · simp only [execOp, ho, hv, e2, cutV]
      simp [Instr.indexAt, asIntOf, run_underlying hu, hj, hsr, hsz, Addr.add_lit]
    · rw [hB0] at hB'; cases hB'
      exact ⟨by omega, g, by rw [hg]; rfl, rfl⟩

/-! ### Slices that cells own are taken out -/
theorem fl_setF {B : Arr} {i f : Nat} {fs : List D} {z : D} (hw : ∀ x ∈ B.xs, x.width = B.sz) (hi : B.xs[i]? = some (.agg fs)) (hf : f < fs.length) (hz : z.isCell = true) :
    (∀ x ∈ B.xs.set i (.agg (fs.set f z)), x.width = B.sz) ∧ ∀ p, (fl (B.xs.set i (.agg (fs.set f z))))[p]? = if p = i * B.sz + f then some z else (fl B.xs)[p]? := by
  have h1 : fs.length = B.sz := hw _ (List.mem_of_getElem? hi)
  have hil := (List.getElem?_eq_some_iff.1 hi).1
  have hy : (D.agg (fs.set f z)).width = B.sz := by simp [D.width, h1]
  refine ⟨fun x hx => ?_, fun p => ?_⟩
  · rcases List.mem_or_eq_of_mem_set hx with h | h
    · exact hw x h
    · rw [h]; exact hy
  · rw [fl_set hw hil hy]
    by_cases c : i * B.sz ≤ p ∧ p < i * B.sz + B.sz
    · rw [if_pos c]
      simp only [D.fl]
      rw [List.getElem?_set]
      by_cases e : f = p - i * B.sz
      · rw [if_pos e, if_pos (by omega), if_pos (by omega)]
      · rw [if_neg e, if_neg (by omega)]
        have := fl_get hw hi (p := p - i * B.sz) (by omega)
        rw [show i * B.sz + (p - i * B.sz) = p by omega] at this
        rw [this]; rfl
    · rw [if_neg c, if_neg (by omega)]
theorem fl_setE {B : Arr} {i : Nat} {y z : D} (hw : ∀ x ∈ B.xs, x.width = B.sz) (hi : B.xs[i]? = some y) (hy : y.isCell = true) (hz : z.isCell = true) :
    (∀ x ∈ B.xs.set i z, x.width = B.sz) ∧ ∀ p, (fl (B.xs.set i z))[p]? = if p = i * B.sz then some z else (fl B.xs)[p]? := by
  have h1 : B.sz = 1 := by rw [← hw _ (List.mem_of_getElem? hi)]; exact width_one hy
  have hil := (List.getElem?_eq_some_iff.1 hi).1
  have hzw : z.width = B.sz := by rw [h1]; exact width_one hz
  refine ⟨fun x hx => ?_, fun p => ?_⟩
  · rcases List.mem_or_eq_of_mem_set hx with h | h
    · exact hw x h
    · rw [h]; exact hzw
  · rw [fl_set hw hil hzw, h1]
    by_cases c : p = i * 1
    · rw [if_pos (by omega), if_pos c, c, Nat.sub_self]
      cases z <;> first | rfl | cases hz
    · rw [if_neg (by omega), if_neg c]

theorem cutV_len {v : Value} {m : Nat} (h : LenV v m) : cutV v m = v := by obtain ⟨a, c, e⟩ := h; rw [e]; rfl

/-- What is left of a tree array, where cell q has become a slice of array d. -/
structure OutOf (B : Arr) (q d : Nat) (e : TypeId) (sz : Nat) (zs xs : List D) : Prop where
  own : (fl B.xs)[q]? = some (.own e sz zs)
  len : xs.length = B.xs.length
  wid : ∀ x ∈ xs, x.width = B.sz
  cells : ∀ p, (fl xs)[p]? = if p = q then some (.ref d zs.length) else (fl B.xs)[p]?

theorem set_mem {xs : List D} {i : Nat} {z y : D} (h : y ∈ fl (xs.set i z)) : y ∈ fl xs ∨ y ∈ z.fl := by
  obtain ⟨x, hx, hy⟩ := List.mem_flatMap.1 h
  rcases List.mem_or_eq_of_mem_set hx with h1 | h1
  · exact .inl (List.mem_flatMap.2 ⟨x, h1, hy⟩)
  · exact .inr (h1 ▸ hy)
theorem setF_mem {xs : List D} {i f : Nat} {fs : List D} {z y : D} (hi : xs[i]? = some (.agg fs)) (h : y ∈ fl (xs.set i (.agg (fs.set f z)))) : y ∈ fl xs ∨ y = z := by
  rcases set_mem h with h | h
  · exact .inl h
  · rcases List.mem_or_eq_of_mem_set (show y ∈ fs.set f z from h) with h1 | h1
    · exact .inl (List.mem_flatMap.2 ⟨_, List.mem_of_getElem? hi, h1⟩)
    · exact .inr h1
theorem setE_mem {xs : List D} {i : Nat} {z y : D} (hz : z.isCell = true) (h : y ∈ fl (xs.set i z)) : y ∈ fl xs ∨ y = z := by
  rcases set_mem h with h | h
  · exact .inl h
  · cases z <;> first | (exact .inr (List.mem_singleton.1 h)) | cases hz

/-- A load that takes a slice out as a tree array. -/
theorem Seen.outF {o : Oper} {t : TypeId} {x : Operand} {k q d : Nat} {B : Arr} {e : TypeId} {sz : Nat} {zs xs : List D} {s : S} (ho : o.op = .load t x) (hd : o.dst = some d) (hu : τ.us d = false) (hrk : Refs o τ k) (hB : τ.f k = some B) (hout : (∀ x ∈ B.xs, x.width = B.sz) → OutOf B q d e sz zs xs) (hcl : ∀ y ∈ fl xs, y ∈ fl B.xs ∨ y = .ref d zs.length) (hnr : NoRefL zs)
    (hs : ∀ k', refS s k' → ReachK o τ k' ∨ k' = d)
    (hrun : ∀ τ0, Like true o τ τ0 → ∀ {X : Env} {w0 : World} {M0 : Mem} {n : Nat} {ac : Act} {w : World} {M : Mem} {γ : Nat → Value}, SimW X w0 M0 n τ0 ac w M γ → τ0.f k = some B → ∃ (g : Nat) (v : Value), (γ k).ownBlock = some g ∧ (execOp ac.eval o).run P w = .ok (.value v) w ∧
      ∀ u τ' γ', w.cell? ⟨g, q, none⟩ = some u → LenV u zs.length → γ' d = u → (∀ j, τ0.us j = true → τ'.us j = true ∧ γ' j = γ j) → τ'.us d = true → τ'.f d = some ⟨e, sz, zs⟩ → RepS M τ' γ' s v) :
    Seen P true o τ { s, gh := [(1000000 + k, .fa ⟨B.e, B.sz, xs⟩), (1000000 + d, .fa ⟨e, sz, zs⟩)], nu := [d] } := by
  refine ⟨fun h => (by cases h), fun k h => (by cases h), fun k A h => (by cases h), fun k h => (by simp at h), fun k A h => (by cases h), fun k' h => ?_, fun p hp => ?_, fun k' hk' => ?_, fun τ0 hl => ?_⟩
  · rw [List.mem_singleton.1 h]; exact ⟨hu, d, hd, .inl rfl⟩
  · rcases List.mem_cons.1 hp with rfl | hp
    · exact ⟨k, rfl, .inl hrk⟩
    · rw [List.mem_singleton.1 hp]; exact ⟨d, rfl, .inr (List.mem_singleton.2 rfl)⟩
  · rcases hk' with hk' | ⟨p, hp, hk'⟩
    · exact (hs k' hk').imp id (fun h => .inl (List.mem_singleton.2 h))
    · rcases List.mem_cons.1 hp with rfl | hp
      · obtain ⟨y, hy, hj⟩ := hk'
        rcases hcl y hy with hy | rfl
        · exact .inl (reach_fl hrk hB hy hj)
        · exact .inr (.inl (List.mem_singleton.2 hj))
      · rw [List.mem_singleton.1 hp] at hk'
        obtain ⟨y, hy, hj⟩ := hk'
        have := hnr y hy
        cases this <;> exact hj.elim
  · intro X w0 M0 n ac w M γ hdn h Q
    have hB0 : τ0.f k = some B := by rw [(hl.c k hrk).2]; exact hB
    obtain ⟨φ, cs, ψ, ht, hrow⟩ := h.tree hB0
    obtain ⟨g, v, hg, hr, hrep⟩ := hrun τ0 hl h hB0
    have ho2 := hout hrow.hw
    have hu0 := (hl.u d hd d (.inl rfl) hu).1
    obtain ⟨u, hcell, hlen, hsim⟩ := h.tcheckF hB0 ho2.own hu0 (hdn d hd) ho2.len ho2.wid ho2.cells hg
    refine wp_value hr (.of (hsim.put hdn (hrep u _ _ hcell hlen (by simp [upd]) (fun j hj => ?_) ?_ ?_)))
    · have hne : j ≠ d := fun e => by rw [e, hu0] at hj; cases hj
      exact ⟨by rw [gho_us, hj, Bool.or_true], by simp [upd, hne]⟩
    · rw [gho_us]; simp
    · have hdk : d ≠ k := fun e => by rw [e, (f_us h hB0).1] at hu0; cases hu0
      rw [gho_f]
      simp only [lkG]
      rw [if_neg (by omega)]; simp

/-- A load that takes a slice out as an own array. -/
theorem Seen.outC {o : Oper} {t : TypeId} {x : Operand} {k q d : Nat} {B : Arr} {e : TypeId} {sz : Nat} {zs xs : List D} {s : S} (ho : o.op = .load t x) (hd : o.dst = some d) (hu : τ.us d = false) (hrk : Refs o τ k) (hB : τ.f k = some B) (hout : (∀ x ∈ B.xs, x.width = B.sz) → OutOf B q d e sz zs xs) (hcl : ∀ y ∈ fl xs, y ∈ fl B.xs ∨ y = .ref d zs.length) (hpl : plainL zs)
    (hs : ∀ k', refS s k' → ReachK o τ k' ∨ k' = d)
    (hrun : ∀ τ0, Like true o τ τ0 → ∀ {X : Env} {w0 : World} {M0 : Mem} {n : Nat} {ac : Act} {w : World} {M : Mem} {γ : Nat → Value}, SimW X w0 M0 n τ0 ac w M γ → τ0.f k = some B → ∃ (g : Nat) (v : Value), (γ k).ownBlock = some g ∧ (execOp ac.eval o).run P w = .ok (.value v) w ∧
      ∀ u τ' γ', w.cell? ⟨g, q, none⟩ = some u → LenV u zs.length → γ' d = u → (∀ j, τ0.us j = true → τ'.us j = true ∧ γ' j = γ j) → τ'.us d = true → τ'.c d = some ⟨e, sz, zs⟩ → RepS M τ' γ' s v) :
    Seen P true o τ { s, al := some (d, ⟨e, sz, zs⟩), gh := [(1000000 + k, .fa ⟨B.e, B.sz, xs⟩)] } := by
  refine ⟨fun h => (by cases h), fun k h => (by cases h), fun k A h => (by cases h), fun k h => (by simp at h), fun k' A h => (by cases h; exact ⟨hd, hu⟩), fun k' h => (by simp at h), fun p hp => ?_, fun k' hk' => ?_, fun τ0 hl => ?_⟩
  · rw [List.mem_singleton.1 hp]; exact ⟨k, rfl, .inl hrk⟩
  · rcases hk' with hk' | ⟨p, hp, hk'⟩
    · exact (hs k' hk').imp id (fun h => .inr ⟨_, by rw [h]⟩)
    · rw [List.mem_singleton.1 hp] at hk'
      obtain ⟨y, hy, hj⟩ := hk'
      rcases hcl y hy with hy | rfl
      · exact .inl (reach_fl hrk hB hy hj)
      · exact .inr (.inr ⟨_, by rw [show k' = d from hj]⟩)
  · intro X w0 M0 n ac w M γ hdn h Q
    have hB0 : τ0.f k = some B := by rw [(hl.c k hrk).2]; exact hB
    obtain ⟨φ, cs, ψ, ht, hrow⟩ := h.tree hB0
    obtain ⟨g, v, hg, hr, hrep⟩ := hrun τ0 hl h hB0
    have ho2 := hout hrow.hw
    have hu0 := (hl.u d hd d (.inl rfl) hu).1
    obtain ⟨u, hcell, hlen, hsim⟩ := h.tcheckC hB0 ho2.own hpl hu0 (.inl (hdn d hd)) ho2.len ho2.wid ho2.cells hg
    refine wp_value hr (.of (hsim.put hdn (hrep u _ _ hcell hlen (by simp [upd]) (fun j hj => ?_) ?_ ?_)))
    · have hne : j ≠ d := fun e => by rw [e, hu0] at hj; cases hj
      exact ⟨by rw [gho_us]; simp [Ab.al, hj], by simp [upd, hne]⟩
    · rw [gho_us]; simp [Ab.al]
    · rw [gho_c]; simp [Ab.al]

section
variable {o : Oper} {t : TypeId} {x : Operand} {k i f d : Nat} {B : Arr} {fs : List D} {e : TypeId} {sz : Nat} {zs : List D} {ty : Ty}
theorem outF_field (hi : B.xs[i]? = some (.agg fs)) (hf : fs[f]? = some (.own e sz zs)) (hw : ∀ x ∈ B.xs, x.width = B.sz) : OutOf B (i * B.sz + f) d e sz zs (B.xs.set i (.agg (fs.set f (.ref d zs.length)))) := by
  obtain ⟨h1, h2⟩ := fl_setF hw hi (List.getElem?_eq_some_iff.1 hf).1 (z := .ref d zs.length) rfl
  exact ⟨fl_field hw hi hf, by simp, h1, h2⟩
theorem outF_elem (hi : B.xs[i]? = some (.own e sz zs)) (hw : ∀ x ∈ B.xs, x.width = B.sz) : OutOf B (i * B.sz) d e sz zs (B.xs.set i (.ref d zs.length)) := by
  obtain ⟨h1, h2⟩ := fl_setE hw hi rfl (z := .ref d zs.length) rfl
  exact ⟨fl_elem hw hi rfl, by simp, h1, h2⟩

theorem run_loadFF (hT : TyOK P t ty) (ho : o.op = .load t x) (hx : τ.val x = .ff k i f) (hi : B.xs[i]? = some (.agg fs)) (hf : fs[f]? = some (.own e sz zs)) (hfit : LoadFit ty (.own e sz zs)) {τ0 : Ab} {wild : Bool} (hl : Like wild o τ τ0) (h : SimW X w0 M0 n τ0 ac w M γ) (hB : τ0.f k = some B) :
    ∃ (g : Nat) (v : Value), (γ k).ownBlock = some g ∧ (execOp ac.eval o).run P w = .ok (.value v) w ∧ w.cell? ⟨g, i * B.sz + f, none⟩ = some v := by
  have hm : x ∈ o.op.operands := by rw [ho]; simp [Op.operands]
  have h1 := h.val x
  rw [hl.v x hm, hx] at h1
  obtain ⟨hil, g, hg, hv⟩ := h1.2 B hB
  obtain ⟨φ, cs, ψ, ht, hrow⟩ := h.tree hB
  obtain ⟨u, _, hcell, _, hct⟩ := hrow.at hg (fl_field hrow.hw hi hf)
  refine ⟨g, u, hg, ?_, hcell⟩
  simp only [execOp, ho, hv, Sem.run_bind, run_load_cell hT hfit (y := .own e sz zs) rfl hcell, Result.andThen_ok]
  rfl
theorem run_loadFE (hT : TyOK P t ty) (ho : o.op = .load t x) (hx : τ.val x = .fe k i) (hi : B.xs[i]? = some (.own e sz zs)) (hfit : LoadFit ty (.own e sz zs)) {τ0 : Ab} {wild : Bool} (hl : Like wild o τ τ0) (h : SimW X w0 M0 n τ0 ac w M γ) (hB : τ0.f k = some B) :
    ∃ (g : Nat) (v : Value), (γ k).ownBlock = some g ∧ (execOp ac.eval o).run P w = .ok (.value v) w ∧ w.cell? ⟨g, i * B.sz, none⟩ = some v := by
  have hm : x ∈ o.op.operands := by rw [ho]; simp [Op.operands]
  have h1 := h.val x
  rw [hl.v x hm, hx] at h1
  obtain ⟨hil, g, hg, hv⟩ := h1.2 B hB
  obtain ⟨φ, cs, ψ, ht, hrow⟩ := h.tree hB
  obtain ⟨u, _, hcell, _, hct⟩ := hrow.at hg (fl_elem hrow.hw hi rfl)
  refine ⟨g, u, hg, ?_, hcell⟩
  simp only [execOp, ho, hv, Sem.run_bind, run_load_cell hT hfit (y := .own e sz zs) rfl hcell, Result.andThen_ok]
  rfl
theorem outS_fv {τ' : Ab} {γ' : Nat → Value} {u v : Value} (hv : v = u) (hlen : LenV u zs.length) (hg : γ' d = u) (hu : τ'.us d = true) (hf : τ'.f d = some ⟨e, sz, zs⟩) : RepS M τ' γ' (.fv d zs.length) v := by
  refine ⟨⟨hu, hv ▸ hlen⟩, fun B hB => ?_⟩
  rw [hf] at hB; cases hB
  exact ⟨Nat.le_refl _, by rw [hg, cutV_len hlen, hv]⟩
theorem outS_av {τ' : Ab} {γ' : Nat → Value} {u v : Value} (hv : v = u) (hlen : LenV u zs.length) (hg : γ' d = u) (hu : τ'.us d = true) (hf : τ'.c d = some ⟨e, sz, zs⟩) : RepS M τ' γ' (.av d zs.length) v := by
  refine ⟨⟨hu, hv ▸ hlen⟩, fun B hB => ?_⟩
  rw [hf] at hB; cases hB
  exact ⟨Nat.le_refl _, by rw [hg, cutV_len hlen, hv]⟩

theorem Seen.outFF (hT : TyOK P t ty) (ho : o.op = .load t x) (hd : o.dst = some d) (hu : τ.us d = false) (hx : τ.val x = .ff k i f) (hB : τ.f k = some B) (hi : B.xs[i]? = some (.agg fs)) (hf : fs[f]? = some (.own e sz zs)) (hfit : LoadFit ty (.own e sz zs)) (hnr : NoRefL zs) :
    Seen P true o τ { s := .fv d zs.length, gh := [(1000000 + k, .fa ⟨B.e, B.sz, B.xs.set i (.agg (fs.set f (.ref d zs.length)))⟩), (1000000 + d, .fa ⟨e, sz, zs⟩)], nu := [d] } := by
  refine .outF ho hd hu (refs_of (x := x) (by rw [ho]; simp [Op.operands]) (by rw [hx]; rfl)) hB (outF_field hi hf) (fun y hy => setF_mem hi hy) hnr (fun k' h => .inr h) fun τ0 hl X w0 M0 n ac w M γ h hB0 => ?_
  obtain ⟨g, v, h1, h2, h3⟩ := run_loadFF hT ho hx hi hf hfit hl h hB0
  exact ⟨g, v, h1, h2, fun u τ' γ' hc hlen hg _ hus hfd => outS_fv (by rw [h3] at hc; exact Option.some.inj hc) hlen hg hus hfd⟩
theorem Seen.outFE (hT : TyOK P t ty) (ho : o.op = .load t x) (hd : o.dst = some d) (hu : τ.us d = false) (hx : τ.val x = .fe k i) (hB : τ.f k = some B) (hi : B.xs[i]? = some (.own e sz zs)) (hfit : LoadFit ty (.own e sz zs)) (hnr : NoRefL zs) :
    Seen P true o τ { s := .fv d zs.length, gh := [(1000000 + k, .fa ⟨B.e, B.sz, B.xs.set i (.ref d zs.length)⟩), (1000000 + d, .fa ⟨e, sz, zs⟩)], nu := [d] } := by
  refine .outF ho hd hu (refs_of (x := x) (by rw [ho]; simp [Op.operands]) (by rw [hx]; rfl)) hB (outF_elem hi) (fun y hy => setE_mem rfl hy) hnr (fun k' h => .inr h) fun τ0 hl X w0 M0 n ac w M γ h hB0 => ?_
  obtain ⟨g, v, h1, h2, h3⟩ := run_loadFE hT ho hx hi hfit hl h hB0
  exact ⟨g, v, h1, h2, fun u τ' γ' hc hlen hg _ hus hfd => outS_fv (by rw [h3] at hc; exact Option.some.inj hc) hlen hg hus hfd⟩
theorem Seen.outCF (hT : TyOK P t ty) (ho : o.op = .load t x) (hd : o.dst = some d) (hu : τ.us d = false) (hx : τ.val x = .ff k i f) (hB : τ.f k = some B) (hi : B.xs[i]? = some (.agg fs)) (hf : fs[f]? = some (.own e sz zs)) (hfit : LoadFit ty (.own e sz zs)) (hpl : plainL zs) :
    Seen P true o τ { s := .av d zs.length, al := some (d, ⟨e, sz, zs⟩), gh := [(1000000 + k, .fa ⟨B.e, B.sz, B.xs.set i (.agg (fs.set f (.ref d zs.length)))⟩)] } := by
  refine .outC ho hd hu (refs_of (x := x) (by rw [ho]; simp [Op.operands]) (by rw [hx]; rfl)) hB (outF_field hi hf) (fun y hy => setF_mem hi hy) hpl (fun k' h => .inr h) fun τ0 hl X w0 M0 n ac w M γ h hB0 => ?_
  obtain ⟨g, v, h1, h2, h3⟩ := run_loadFF hT ho hx hi hf hfit hl h hB0
  exact ⟨g, v, h1, h2, fun u τ' γ' hc hlen hg _ hus hfd => outS_av (by rw [h3] at hc; exact Option.some.inj hc) hlen hg hus hfd⟩
theorem Seen.outCE (hT : TyOK P t ty) (ho : o.op = .load t x) (hd : o.dst = some d) (hu : τ.us d = false) (hx : τ.val x = .fe k i) (hB : τ.f k = some B) (hi : B.xs[i]? = some (.own e sz zs)) (hfit : LoadFit ty (.own e sz zs)) (hpl : plainL zs) :
    Seen P true o τ { s := .av d zs.length, al := some (d, ⟨e, sz, zs⟩), gh := [(1000000 + k, .fa ⟨B.e, B.sz, B.xs.set i (.ref d zs.length)⟩)] } := by
  refine .outC ho hd hu (refs_of (x := x) (by rw [ho]; simp [Op.operands]) (by rw [hx]; rfl)) hB (outF_elem hi) (fun y hy => setE_mem rfl hy) hpl (fun k' h => .inr h) fun τ0 hl X w0 M0 n ac w M γ h hB0 => ?_
  obtain ⟨g, v, h1, h2, h3⟩ := run_loadFE hT ho hx hi hfit hl h hB0
  exact ⟨g, v, h1, h2, fun u τ' γ' hc hlen hg _ hus hfd => outS_av (by rw [h3] at hc; exact Option.some.inj hc) hlen hg hus hfd⟩
/-- A whole struct, one of whose slices is taken out. -/
theorem Seen.outSF (hT : TyOK P t ty) (ho : o.op = .load t x) (hd : o.dst = some d) (hu : τ.us d = false) (hx : τ.val x = .fe k i) (hB : τ.f k = some B) (hi : B.xs[i]? = some (.agg fs)) (hf : fs[f]? = some (.own e sz zs)) (hy : ∀ d' ∈ fs.set f (.ref d zs.length), okR d' = true) (hfit : LoadFit ty (.agg fs)) (hnr : NoRefL zs) :
    Seen P true o τ { s := .dr (fs.set f (.ref d zs.length)), gh := [(1000000 + k, .fa ⟨B.e, B.sz, B.xs.set i (.agg (fs.set f (.ref d zs.length)))⟩), (1000000 + d, .fa ⟨e, sz, zs⟩)], nu := [d] } := by
  have hm : x ∈ o.op.operands := by rw [ho]; simp [Op.operands]
  have hrk : Refs o τ k := refs_of hm (by rw [hx]; rfl)
  refine .outF (s := .dr (fs.set f (.ref d zs.length))) ho hd hu hrk hB (outF_field hi hf) (fun y hy => setF_mem hi hy) hnr (fun k' ⟨y, hy', hj⟩ => ?_) fun τ0 hl X w0 M0 n ac w M γ h hB0 => ?_
  · rcases List.mem_or_eq_of_mem_set hy' with h1 | h1
    · exact .inl (reach_fl hrk hB (List.mem_flatMap.2 ⟨_, List.mem_of_getElem? hi, h1⟩) hj)
    · rw [h1] at hj; exact .inr hj
  · have h1 := h.val x
    rw [hl.v x hm, hx] at h1
    obtain ⟨hil, g, hg, hv⟩ := h1.2 B hB0
    obtain ⟨φ, cs, ψ, ht, hrow⟩ := h.tree hB0
    obtain ⟨us', hl', hrun, hcells⟩ := load_struct hT hrow hg hi hfit
    refine ⟨g, .agg us'.toArray, hg, ?_, fun u τ' γ' hc hlen hgd hmono hus hfd => ⟨us'.toArray, rfl, by simp [hl'], fun j y hyj => ?_⟩⟩
    · simp only [execOp, ho, hv, Sem.run_bind, hrun, Result.andThen_ok]
      rfl
    · rw [List.getElem?_set] at hyj
      by_cases c : f = j
      · rw [if_pos c] at hyj
        have hfl := (List.getElem?_eq_some_iff.1 hf).1
        rw [if_pos (by omega)] at hyj
        cases hyj
        obtain ⟨u', h2, h3, _⟩ := hcells f _ hf
        rw [hc] at h3; cases h3
        have e : us'.toArray.getD j undef = u := by rw [← c]; simp [h2]
        rw [e]
        exact ⟨rfl, hus, hlen, hgd.symm⟩
      · rw [if_neg c] at hyj
        obtain ⟨u', h2, _, h4⟩ := hcells j y hyj
        have e : us'.toArray.getD j undef = u' := by simp [h2]
        rw [e]
        have hmem : y ∈ fs.set f (.ref d zs.length) := List.mem_of_getElem? (by rw [List.getElem?_set, if_neg c]; exact hyj)
        obtain ⟨a, b⟩ := h4.okR (hy y hmem)
        exact ⟨a, b.goes (Mem.le_refl M) hmono⟩
end

/-! ### What is put into a tree array -/
inductive ToE (τ : Ab) : S → D → Prop
  | d (x : D) : ToE τ (.d x) x
  | nil : ToE τ .nil (.sl [])
  | av (j m : Nat) (A : Arr) (h : τ.c j = some A) (hm : m = A.xs.length) : ToE τ (.av j m) (.ref j m)
  | fv (j m : Nat) (B : Arr) (h : τ.f j = some B) (hm : m = B.xs.length) : ToE τ (.fv j m) (.ref j m)
  | dr (fs : List D) : ToE τ (.dr fs) (.agg fs)
theorem ToE.like {wild : Bool} {o : Oper} {τ τ' : Ab} (hl : Like wild o τ τ') {x : Operand} (hx : x ∈ o.op.operands) {s : S} (hs : τ.val x = s) {z : D} (h : ToE τ s z) : ToE τ' s z := by
  cases h with
  | d => exact .d _
  | nil => exact .nil
  | av j m A h hm => exact .av j m A (by rw [(hl.c j ⟨x, hx, by rw [hs]; rfl⟩).1]; exact h) hm
  | fv j m B h hm => exact .fv j m B (by rw [(hl.c j ⟨x, hx, by rw [hs]; rfl⟩).2]; exact h) hm
  | dr => exact .dr _
/-- The cells of a value read so. -/
structure ValE (M : Mem) (us : Nat → Bool) (γ : Nat → Value) (z : D) (v : Value) : Prop where
  len : v.cells.size = z.width
  at' : ∀ (p : Nat) (d : D) (u : Value), z.fl[p]? = some d → v.cells.toList[p]? = some u → d.isCell = true ∧ RepR M us γ d u
  agg : z.isCell = true → v.cells = #[v]
theorem Rep.valE {us : Nat → Bool} {z : D} {v : Value} (h : Rep M z v) : ValE M us γ z v := by
  obtain ⟨h1, h2, h3⟩ := h.cells_one
  have toR : ∀ {d : D} {u : Value}, Rep M d u → RepR M us γ d u := fun {d u} h => by cases d <;> first | exact h | cases h
  refine ⟨h1, fun p d u hd hu => ?_, fun hz => ?_⟩
  · cases z with
    | agg fs =>
      obtain ⟨a, v', b, c⟩ := h3.2 fs rfl p d hd
      rw [Nat.zero_add, hu] at b; cases b
      exact ⟨a, toR c⟩
    | sc x =>
      have hp : p = 0 := by
        rcases Nat.eq_zero_or_pos p with e | e
        · exact e
        · rw [show (D.sc x).fl = [.sc x] from rfl, List.getElem?_eq_none (by simp; omega)] at hd; cases hd
      subst hp
      simp [D.fl] at hd; subst hd
      obtain ⟨v', b, c⟩ := h3.1 rfl
      rw [hu] at b; cases b
      exact ⟨rfl, toR c⟩
    | sl xs =>
      have hp : p = 0 := by
        rcases Nat.eq_zero_or_pos p with e | e
        · exact e
        · rw [show (D.sl xs).fl = [.sl xs] from rfl, List.getElem?_eq_none (by simp; omega)] at hd; cases hd
      subst hp
      simp [D.fl] at hd; subst hd
      obtain ⟨v', b, c⟩ := h3.1 rfl
      rw [hu] at b; cases b
      exact ⟨rfl, toR c⟩
    | ref k m => cases h
    | own e sz xs => cases h
    | jk => cases h
  · have := h.oneCell hz
    cases hh : v <;> rw [hh] at this <;> first | rfl | cases this
theorem RepR.valE {us : Nat → Bool} {k m : Nat} {v : Value} (h : RepR M us γ (.ref k m) v) : ValE M us γ (.ref k m) v := by
  obtain ⟨a, c, e⟩ := h.2.1
  refine ⟨by rw [e]; rfl, fun p d u hd hu => ?_, fun _ => by rw [e]; rfl⟩
  have hp : p = 0 := by
    rcases Nat.eq_zero_or_pos p with e | e
    · exact e
    · rw [show (D.ref k m).fl = [.ref k m] from rfl, List.getElem?_eq_none (by simp; omega)] at hd; cases hd
  subst hp
  simp [D.fl] at hd; subst hd
  rw [e] at hu
  simp [Value.cells] at hu
  subst hu
  rw [← e]
  exact ⟨rfl, h⟩
theorem ToE.val (hs : SimW X w0 M0 n τ ac w M γ) {s : S} {z : D} (h : ToE τ s z) {v : Value} (hv : RepS M τ γ s v) : ValE M τ.us γ z v := by
  cases h with
  | d x => exact Rep.valE hv
  | nil => rw [show v = .slice none 0 0 from hv]; exact Rep.valE (.nil _ _)
  | av j m A hA hm =>
    refine RepR.valE ⟨hv.1.1, hv.1.2, ?_⟩
    obtain ⟨_, e⟩ := hv.2 A hA
    rw [e]
    obtain ⟨_, ⟨⟨cs, ho, _⟩, _⟩⟩ := hs.ow j A hA
    exact cutV_len (hm ▸ own_len ho)
  | fv j m B hB hm =>
    refine RepR.valE ⟨hv.1.1, hv.1.2, ?_⟩
    obtain ⟨_, e⟩ := hv.2 B hB
    rw [e]
    obtain ⟨φ, cs, ψ, ht, hr⟩ := hs.tree hB
    exact cutV_len (hm ▸ own_len hr.ho)
  | dr fs =>
    obtain ⟨cs, e, hl, hc⟩ := hv
    subst e
    refine ⟨hl, fun p d u hd hu => ?_, fun h => by cases h⟩
    have h1 := hc p d hd
    have e : cs.getD p undef = u := by
      have : cs[p]? = some u := by simpa [Value.cells] using hu
      simp [this]
    rw [e] at h1
    exact h1
theorem ToE.refs {s : S} {z : D} (h : ToE τ s z) {y : D} (hy : y ∈ z.fl) {j : Nat} (hj : refD y j) (hz : ∀ x, s = .d x → ∀ j, ¬ ∃ y ∈ x.fl, refD y j) : refS s j := by
  cases h with
  | d => exact absurd ⟨y, hy, hj⟩ (hz z rfl j)
  | nil => rw [List.mem_singleton.1 hy] at hj; exact hj.elim
  | av i m A h hm => rw [List.mem_singleton.1 hy] at hj; exact hj
  | fv i m A h hm => rw [List.mem_singleton.1 hy] at hj; exact hj
  | dr fs => exact ⟨y, hy, hj⟩
/-- Plain data that is put into a tree array has no references at its cells. -/
def D.okE : D → Bool
  | .agg fs => fs.all fun d => !d.isRef
  | x => !x.isRef
theorem okE_refs {x : D} (h : x.okE = true) (j : Nat) : ¬ ∃ y ∈ x.fl, refD y j := by
  rintro ⟨y, hy, hj⟩
  have key : y.isRef = false := by
    cases x with
    | agg fs => simpa using List.all_eq_true.1 h y hy
    | _ => rw [List.mem_singleton.1 hy]; simpa [D.okE] using h
  cases y <;> first | exact hj.elim | cases key

theorem tup_eff (τ : Ab) (k : Nat) (B : Arr) (dst : Option Nat) : τ.eff dst { s := .un, gh := [(1000000 + k, .fa B)] } = (τ.tup k B).put dst .un := rfl

/-- Cells of a tree array written: the step. -/
theorem Seen.store {o : Oper} {t : TypeId} {x y : Operand} {k oo : Nat} {B : Arr} {z : D} {xs : List D} {ty : Ty} (hT : TyOK P t ty) (ho : o.op = .store t x y) (hrk : Refs o τ k) (hB : τ.f k = some B) (hz : ToE τ (τ.val y) z) (hze : ∀ u, τ.val y = .d u → u.okE = true) (hw : ty.width = z.width)
    (hin : (∀ x ∈ B.xs, x.width = B.sz) → oo + z.width ≤ (fl B.xs).length ∧ (∀ x ∈ xs, x.width = B.sz) ∧ ∀ q, (fl xs)[q]? = if oo ≤ q ∧ q < oo + z.width then z.fl[q - oo]? else (fl B.xs)[q]?) (hlen : xs.length = B.xs.length)
    (hcl : ∀ d ∈ fl xs, d ∈ fl B.xs ∨ d ∈ z.fl)
    (hptr : ∀ τ0, Like true o τ τ0 → ∀ {X : Env} {w0 : World} {M0 : Mem} {n : Nat} {ac : Act} {w : World} {M : Mem} {γ : Nat → Value}, SimW X w0 M0 n τ0 ac w M γ → τ0.f k = some B → ∃ g, (γ k).ownBlock = some g ∧ ac.eval x = .pointer (some ⟨g, oo, none⟩)) :
    Seen P true o τ { s := .un, gh := [(1000000 + k, .fa ⟨B.e, B.sz, xs⟩)] } := by
  have hmy : y ∈ o.op.operands := by rw [ho]; simp [Op.operands]
  refine ⟨fun h => (by cases h), fun k h => (by cases h), fun k A h => (by cases h), fun k h => (by simp at h), fun k A h => (by cases h), fun k h => (by simp at h), fun p hp => ?_, fun j hj => ?_, fun τ0 hl => ?_⟩
  · rw [List.mem_singleton.1 hp]; exact ⟨k, rfl, .inl hrk⟩
  · rcases hj with hj | ⟨p, hp, hj⟩
    · exact hj.elim
    · rw [List.mem_singleton.1 hp] at hj
      obtain ⟨d, hd, hj⟩ := hj
      rcases hcl d hd with hd | hd
      · exact .inl (reach_fl hrk hB hd hj)
      · exact .inl (.inl ⟨y, hmy, hz.refs hd hj fun u hu => okE_refs (hze u hu)⟩)
  · intro X w0 M0 n ac w M γ hdn h Q
    have hB0 : τ0.f k = some B := by rw [(hl.c k hrk).2]; exact hB
    obtain ⟨g, hg, hpv⟩ := hptr τ0 hl h hB0
    obtain ⟨φ, cs, ψ, ht, hrow⟩ := h.tree hB0
    obtain ⟨i1, i2, i3⟩ := hin hrow.hw
    have hzv := (hz.like hl hmy rfl).val h (by rw [← hl.v y hmy]; exact h.val y)
    have hlv : (ac.eval y).cells.toList.length = z.width := by rw [Array.length_toList]; exact hzv.len
    obtain ⟨w', hst, hsim⟩ := h.tstore (P := P) hB0 hg (o := oo) (us := (ac.eval y).cells.toList) (ds := z.fl) (by rw [hlv]; exact i1) (by rw [D.fl_len, hlv]) hzv.at' hlen i2 (by rw [hlv]; exact i3)
    have hsr := run_sizeOf hT w
    have hrun : (execOp ac.eval o).run P w = .ok .skip w' := by
      simp only [execOp, ho, hpv, Instr.storeAt, Instr.sureAddr, storeVar, Sem.run_bind, Sem.run_pure, Result.andThen_ok, hsr]
      rw [if_neg (by simp only [ne_eq, Decidable.not_not]; rw [hzv.len, hw]), hst]
      rfl
    refine wp_skip' hrun (Sim.of (M := M) (γ := γ) ?_)
    rw [tup_eff]
    exact hsim.put hdn rfl

theorem Seen.storeF {o : Oper} {t : TypeId} {x y : Operand} {k i f : Nat} {B : Arr} {fs : List D} {z : D} {ty : Ty} (hT : TyOK P t ty) (ho : o.op = .store t x y) (hx : τ.val x = .ff k i f) (hB : τ.f k = some B) (hi : B.xs[i]? = some (.agg fs)) (hf : f < fs.length) (hz : ToE τ (τ.val y) z) (hze : ∀ u, τ.val y = .d u → u.okE = true) (hzc : z.isCell = true) (hw : ty.width = 1) :
    Seen P true o τ { s := .un, gh := [(1000000 + k, .fa ⟨B.e, B.sz, B.xs.set i (.agg (fs.set f z))⟩)] } := by
  have hm : x ∈ o.op.operands := by rw [ho]; simp [Op.operands]
  have hz1 := width_one hzc
  have hfl : z.fl = [z] := by cases z <;> first | rfl | cases hzc
  refine .store (oo := i * B.sz + f) hT ho (refs_of hm (by rw [hx]; rfl)) hB hz hze (by rw [hw, hz1]) (fun hwd => ?_) (by simp) (fun d hd => ?_) fun τ0 hl X w0 M0 n ac w M γ h hB0 => ?_
  · obtain ⟨h1, h2⟩ := fl_setF hwd hi hf hzc
    refine ⟨?_, h1, fun q => ?_⟩
    · have := fl_field hwd hi (List.getElem?_eq_getElem hf)
      have := (List.getElem?_eq_some_iff.1 this).1
      omega
    · rw [h2, hz1]
      by_cases c : q = i * B.sz + f
      · rw [if_pos c, if_pos (by omega), c, Nat.sub_self, hfl]; rfl
      · rw [if_neg c, if_neg (by omega)]
  · rcases setF_mem hi hd with h | h
    · exact .inl h
    · rw [h, hfl]; exact .inr (List.mem_singleton.2 rfl)
  · have h1 := h.val x
    rw [hl.v x hm, hx] at h1
    obtain ⟨hil, g, hg, hv⟩ := h1.2 B hB0
    exact ⟨g, hg, hv⟩
theorem Seen.storeE {o : Oper} {t : TypeId} {x y : Operand} {k i : Nat} {B : Arr} {z : D} {ty : Ty} (hT : TyOK P t ty) (ho : o.op = .store t x y) (hx : τ.val x = .fe k i) (hB : τ.f k = some B) (hi : i < B.xs.length) (hz : ToE τ (τ.val y) z) (hze : ∀ u, τ.val y = .d u → u.okE = true) (hzw : z.width = B.sz) (hw : ty.width = B.sz) :
    Seen P true o τ { s := .un, gh := [(1000000 + k, .fa ⟨B.e, B.sz, B.xs.set i z⟩)] } := by
  have hm : x ∈ o.op.operands := by rw [ho]; simp [Op.operands]
  refine .store (oo := i * B.sz) hT ho (refs_of hm (by rw [hx]; rfl)) hB hz hze (by rw [hw, hzw]) (fun hwd => ?_) (by simp) (fun d hd => set_mem hd) fun τ0 hl X w0 M0 n ac w M γ h hB0 => ?_
  · refine ⟨by rw [fl_len hwd, hzw]; exact mul_succ_le hi, fun x hx => ?_, fun q => by rw [fl_set hwd hi hzw, hzw]⟩
    rcases List.mem_or_eq_of_mem_set hx with h | h
    · exact hwd x h
    · rw [h]; exact hzw
  · have h1 := h.val x
    rw [hl.v x hm, hx] at h1
    obtain ⟨hil, g, hg, hv⟩ := h1.2 B hB0
    exact ⟨g, hg, hv⟩

/-! ### New tree arrays -/
theorem SimW.talNew (h : SimW X w0 M0 n τ ac w M γ) {d : Nat} {B : Arr} (cs : List Value) (hd : τ.us d = false) (hdn : d < n) (hl : cs.length = B.xs.length * B.sz) (hw : ∀ x ∈ B.xs, x.width = B.sz)
    (hc : ∀ (p : Nat) (d' : D) (u : Value), (fl B.xs)[p]? = some d' → cs[p]? = some u → d'.isCell = true ∧ RepR M τ.us γ d' u) (hpos : 0 < B.sz) (hm : B.xs.length ≤ maxLen) :
    SimW X w0 M0 n (τ.gho [(1000000 + d, .fa B)] [d]) ac (w.alloc (.cells cs.toArray B.e)) M (upd γ d (.slice (some ⟨w.heap.size, 0, none⟩) B.xs.length B.xs.length)) := by
  have hne : ∀ j, τ.us j = true → j ≠ d := fun j hj e => by rw [e, hd] at hj; cases hj
  have umono : ∀ j, τ.us j = true → (fun j => decide (j = d) || τ.us j) j = true ∧ upd γ d (.slice (some ⟨w.heap.size, 0, none⟩) B.xs.length B.xs.length) j = γ j := fun j hj => ⟨by simp [hj], by simp [upd, hne j hj]⟩
  refine h.tal (us' := fun j => decide (j = d) || τ.us j) (γ' := upd γ d (.slice (some ⟨w.heap.size, 0, none⟩) B.xs.length B.xs.length)) (Φ := fun g => g = w.heap.size) hd (fun u hu => by have := (h.pin d u hu).2.1; omega) ((Below.refl _ _).alloc (Nat.le_refl _) _) (Mem.le_refl M) (fun a v hav => ?_) (fun a v hav => .inl hav) rfl rfl ?_ (fun g hg => ?_) (fun j m hjm => ?_)
  · have h1 := h.mw a v hav
    rw [World.cell?_alloc_lt w _ a (block_lt_of_cell h1)]
    exact h1
  · refine .own B.e B.sz B.xs _ _ cs (fun _ _ => False) ⟨hl, .inr ⟨w.heap.size, B.xs.length, cs.toArray, rfl, Nat.zero_le _, heap_alloc_new w _, Nat.le_refl _, hm, by simp [hl], by simp [← hl]⟩⟩ hpos hw (fun p d' u h1 h2 => ?_) (fun g hg => ⟨(Option.some.inj hg).symm, fun _ h => h⟩) (fun _ _ h => h.elim) (fun _ _ _ h => h.elim)
    obtain ⟨a, b⟩ := hc p d' u h1 h2
    exact (b.goes (Mem.le_refl M) umono).cellT a _
  · subst hg
    exact ⟨Nat.le_refl _, (Array.getElem?_eq_some_iff.1 (heap_alloc_new w (.cells cs.toArray B.e))).1, fun off sp => no_mem_new h (Nat.le_refl _) off sp⟩
  · obtain ⟨p, hp⟩ := List.getElem?_of_mem hjm
    have hpl := (List.getElem?_eq_some_iff.1 hp).1
    rw [fl_len hw] at hpl
    obtain ⟨_, b⟩ := hc p _ (cs[p]'(by omega)) hp (List.getElem?_eq_getElem _)
    exact (umono j b.1).1

/-- A new tree array: the step. -/
theorem Seen.new {o : Oper} {d : Nat} {B : Arr} {s : S} (hd : o.dst = some d) (hu : τ.us d = false) (hs : ∀ k, refS s k → k = d) (hcl : ∀ y ∈ fl B.xs, ∀ j, refD y j → Refs o τ j)
    (hrun : ∀ τ0, Like false o τ τ0 → ∀ {X : Env} {w0 : World} {M0 : Mem} {n : Nat} {ac : Act} {w : World} {M : Mem} {γ : Nat → Value}, SimW X w0 M0 n τ0 ac w M γ → ∃ (v : Value) (cs : List Value), (execOp ac.eval o).run P w = .ok (.value v) (w.alloc (.cells cs.toArray B.e)) ∧
      cs.length = B.xs.length * B.sz ∧ (∀ x ∈ B.xs, x.width = B.sz) ∧ (∀ (p : Nat) (d' : D) (u : Value), (fl B.xs)[p]? = some d' → cs[p]? = some u → d'.isCell = true ∧ RepR M τ0.us γ d' u) ∧ 0 < B.sz ∧ B.xs.length ≤ maxLen ∧
      ∀ τ' γ', τ'.us d = true → τ'.f d = some B → γ' d = .slice (some ⟨w.heap.size, 0, none⟩) B.xs.length B.xs.length → RepS M τ' γ' s v) :
    Seen P false o τ { s, gh := [(1000000 + d, .fa B)], nu := [d] } := by
  refine ⟨fun _ => ⟨rfl, rfl, fun p hp => ?_⟩, fun k h => (by cases h), fun k A h => (by cases h), fun k h => (by simp at h), fun k A h => (by cases h), fun k' h => ?_, fun p hp => ?_, fun k' hk' => ?_, fun τ0 hl => ?_⟩
  · rw [List.mem_singleton.1 hp]; exact ⟨d, List.mem_singleton.2 rfl, rfl⟩
  · rw [List.mem_singleton.1 h]; exact ⟨hu, d, hd, .inl rfl⟩
  · rw [List.mem_singleton.1 hp]; exact ⟨d, rfl, .inr (List.mem_singleton.2 rfl)⟩
  · rcases hk' with hk' | ⟨p, hp, hk'⟩
    · exact .inr (.inl (List.mem_singleton.2 (hs k' hk')))
    · rw [List.mem_singleton.1 hp] at hk'
      obtain ⟨y, hy, hj⟩ := hk'
      exact .inl (.inl (hcl y hy k' hj))
  · intro X w0 M0 n ac w M γ hdn h Q
    have hu0 := (hl.u d hd d (.inl rfl) hu).1
    obtain ⟨v, cs, hr, h1, h2, h3, h4, h5, h6⟩ := hrun τ0 hl h
    have hsim := h.talNew cs hu0 (hdn d hd) h1 h2 h3 h4 h5
    refine wp_value hr (.of (hsim.put hdn (h6 _ _ ?_ ?_ ?_)))
    · rw [gho_us]; simp
    · rw [gho_f]; simp [lkG]
    · simp [upd]

theorem toR {us : Nat → Bool} {d : D} {u : Value} (h : Rep M d u) : RepR M us γ d u := by cases d <;> first | exact h | cases h
theorem cells_plain {us : Nat → Bool} {sz : Nat} (hp : 0 < sz) {xs : List D} {cs : List Value} (h : CellsOK M sz xs cs) : ∀ (p : Nat) (d' : D) (u : Value), (fl xs)[p]? = some d' → cs[p]? = some u → d'.isCell = true ∧ RepR M us γ d' u := fun p d' u h1 h2 => by
  obtain ⟨a, b⟩ := (fl_cellsOK hp h).2 p d' u h1 h2
  exact ⟨b, toR a⟩
theorem zero_noref (ty : Ty) {y : D} (hy : y ∈ ty.zeroD.fl) {j : Nat} (hj : refD y j) : False := by
  have F0 : ∀ f : F, refD f.zeroD j → False := fun f h => by cases f <;> exact h
  cases ty with
  | st fs =>
    obtain ⟨f, _, rfl⟩ := List.mem_map.1 (show y ∈ fs.map F.zeroD from hy)
    exact F0 f hj
  | _ => rw [List.mem_singleton.1 hy] at hj; exact hj

theorem fvS {d m : Nat} {B : Arr} {τ' : Ab} {γ' : Nat → Value} {a : Option Addr} {c : Nat} (hm : m = B.xs.length) (h1 : τ'.us d = true) (h2 : τ'.f d = some B) (h3 : γ' d = .slice a B.xs.length c) : RepS M τ' γ' (.fv d m) (.slice a B.xs.length c) := by
  subst hm
  refine ⟨⟨h1, ⟨_, _, rfl⟩⟩, fun B' hB' => ?_⟩
  rw [h2] at hB'; cases hB'
  exact ⟨Nat.le_refl _, by rw [h3]; rfl⟩

theorem Seen.make (hT : TOK P T) {o : Oper} {t : TypeId} {x y : Operand} {m : Nat} {k k' : IntKind} {e : TypeId} {ety : Ty} {d : Nat} (ho : o.op = .makeSlice t x y) (hd : o.dst = some d) (hu : τ.us d = false) (hm : (t, .sl e) ∈ T) (hE : (e, ety) ∈ T)
    (hx : τ.val x = .d (.sc (.int k (m : Int)))) (hy : τ.val y = .d (.sc (.int k' (m : Int)))) (hm35 : m ≤ 34359738368) (hw : 0 < ety.width) : Seen P false o τ { s := .fv d m, gh := [(1000000 + d, .fa ⟨e, ety.width, List.replicate m ety.zeroD⟩)], nu := [d] } := by
  have hmx : x ∈ o.op.operands := by rw [ho]; simp [Op.operands]
  have hmy : y ∈ o.op.operands := by rw [ho]; simp [Op.operands]
  refine .new hd hu (fun k h => h) (fun z hz j hj => ?_) fun τ0 hl X w0 M0 n ac w M γ hs => ?_
  · obtain ⟨x, hx, hz⟩ := List.mem_flatMap.1 hz
    rw [(List.mem_replicate.1 hx).2] at hz
    exact (zero_noref ety hz hj).elim
  · have e1 : ac.eval x = .int k (m : Int) := by have := hs.val x; rw [hl.v x hmx, hx] at this; exact rep_sc this
    have e2 : ac.eval y = .int k' (m : Int) := by have := hs.val y; rw [hl.v y hmy, hy] at this; exact rep_sc this
    have hu2 := (hT _ hm).und
    simp only at hu2
    obtain ⟨i, hi, his, hiz, hib⟩ := (hT _ hE).info
    simp only at hi his hiz
    obtain ⟨hzs, _, hze⟩ := (ety.zero_rep M).cells_one
    rw [ety.zero_width] at hzs
    have hbytes : (i.bytes : Int) * (m : Int) ≤ 281474976710656 := by
      have h3 : i.bytes * m ≤ 4096 * 34359738368 := Nat.mul_le_mul hib hm35
      have h4 : ((i.bytes * m : Nat) : Int) ≤ 281474976710656 := by omega
      rwa [Int.natCast_mul] at h4
    have hr := run_make (P := P) w t e i ety.zeroV hu2 hi hiz k k' (m : Int) (m : Int) (by omega) (Int.le_refl _) hbytes (by omega)
    simp only [Int.toNat_natCast, his] at hr
    have hcells := cellsOK_replicate (M := M) (n := m) (us := ety.zeroV.cells.toList) (by rw [Array.length_toList, hzs, ety.zero_width]) hze
    rw [ety.zero_width] at hcells
    have hmade : (madeCells ety.zeroV.cells (m * ety.width)).toList = (List.replicate m ety.zeroV.cells.toList).flatten := by
      rw [← hzs]; exact toList_madeCells _ _ (by omega)
    rw [← hmade] at hcells
    refine ⟨.slice (some ⟨w.heap.size, 0, none⟩) m m, (madeCells ety.zeroV.cells (m * ety.width)).toList, ?_, hcells.1, (fl_cellsOK hw hcells).1, cells_plain hw hcells, hw, by simp [maxLen]; omega, fun τ' γ' h1 h2 h3 => ?_⟩
    · simp only [execOp, ho, e1, e2, bind_pure_comp, Sem.run_map, hr, Result.andThen_ok, Array.toArray_toList]
    · have := fvS (M := M) (m := m) (by simp) h1 h2 h3
      simpa using this

theorem Seen.lit0 (hT : TOK P T) {o : Oper} {t : TypeId} {e : TypeId} {ety : Ty} {d : Nat} (ho : o.op = .buildSlice t 0 #[]) (hd : o.dst = some d) (hu : τ.us d = false) (hm : (t, .sl e) ∈ T) (hE : (e, ety) ∈ T) (hw : 0 < ety.width) :
    Seen P false o τ { s := .fv d 0, gh := [(1000000 + d, .fa ⟨e, ety.width, []⟩)], nu := [d] } := by
  refine .new hd hu (fun k h => h) (fun z hz j hj => by simp [fl] at hz) fun τ0 hl X w0 M0 n ac w M γ hs => ?_
  have hu2 := (hT _ hm).und
  simp only at hu2
  have hsr := run_sizeOf (hT _ hE) (P := P) w
  simp only at hsr
  refine ⟨.slice (some ⟨w.heap.size, 0, none⟩) 0 0, [], ?_, by simp, fun x hx => by simp at hx, fun p d' u h1 => by simp [fl] at h1, hw, by simp, fun τ' γ' h1 h2 h3 => fvS (m := 0) rfl h1 h2 h3⟩
  simp only [execOp, ho, Instr.buildSlice, bind_pure_comp, Sem.run_bind, Sem.run_map, Result.andThen_ok, run_underlying hu2, hsr]
  simp [Instr.fill, newRow, Array.range_zero']

/-- What a value is, cell by cell. -/
def scD (v : Value) : D :=
  match v with
  | .agg cs => .agg (cs.toList.map .sc)
  | v => .sc v
theorem scD_rep {us : Nat → Bool} {z : D} {v : Value} (h : ValE M us γ z v) : Rep M (scD v) v ∧ (scD v).width = v.cells.size ∧ ∀ {cs : List Value}, ElemAt M (scD v) cs 0 → cs.take v.cells.size = v.cells.toList := by
  have hone : ∀ u ∈ v.cells.toList, u.oneCell' = true := fun u hu => by
    obtain ⟨p, hp⟩ := List.getElem?_of_mem hu
    have hpl := (List.getElem?_eq_some_iff.1 hp).1
    rw [Array.length_toList, h.len] at hpl
    obtain ⟨a, b⟩ := h.at' p _ u (List.getElem?_eq_getElem (by rw [D.fl_len]; exact hpl)) hp
    exact (b.cellT a (w := default) (fun _ => False)).oneCell
  have sc : ∀ {u u' : Value}, Rep M (.sc u) u' → u' = u := fun h => rep_sc h
  by_cases hz : ∃ cs, v = .agg cs
  · obtain ⟨cs, rfl⟩ := hz
    have hc : (Value.agg cs).cells = cs := rfl
    refine ⟨.agg _ _ (by simp) (fun f hf => by obtain ⟨u, _, rfl⟩ := List.mem_map.1 hf; rfl) (fun j f hj => ?_), by simp [scD, D.width, hc], fun {ds} hel => ?_⟩
    · rw [List.getElem?_map] at hj
      cases hu : cs.toList[j]? with
      | none => simp [hu] at hj
      | some u =>
        simp [hu] at hj; subst hj
        have e : cs.getD j undef = u := by have : cs[j]? = some u := by simpa using hu
                                           simp [this]
        rw [e]
        exact .sc u (hone u (by rw [hc]; exact List.mem_of_getElem? hu))
    · apply List.ext_getElem?
      intro i
      rw [List.getElem?_take]
      split
      · rename_i hi
        rw [hc] at hi ⊢
        have hu : cs.toList[i]? = some (cs.toList[i]'(by simpa using hi)) := List.getElem?_eq_getElem _
        obtain ⟨_, v', a, b⟩ := hel.2 _ rfl i (.sc (cs.toList[i]'(by simpa using hi))) (by rw [List.getElem?_map, hu]; rfl)
        rw [Nat.zero_add] at a
        rw [a, hu, sc b]
      · rename_i hi
        rw [List.getElem?_eq_none (by simpa using hi)]
  · have e1 : scD v = .sc v := by cases v <;> first | rfl | exact absurd ⟨_, rfl⟩ hz
    have e2 : v.cells = #[v] := by cases v <;> first | rfl | exact absurd ⟨_, rfl⟩ hz
    rw [e1, e2]
    refine ⟨.sc v (hone v (by rw [e2]; simp)), rfl, fun {ds} hel => ?_⟩
    obtain ⟨v', a, b⟩ := hel.1 rfl
    rw [sc b] at a
    cases ds with
    | nil => simp at a
    | cons x r => simp at a; subst a; rfl

theorem Seen.lit1 (hT : TOK P T) {o : Oper} {t : TypeId} {y : Operand} {e : TypeId} {ety : Ty} {d : Nat} {z : D} (ho : o.op = .buildSlice t 1 #[(0, y)]) (hd : o.dst = some d) (hu : τ.us d = false) (hm : (t, .sl e) ∈ T) (hE : (e, ety) ∈ T) (hw : 0 < ety.width) (hw24 : ety.width ≤ 2 ^ 24)
    (hz : ToE τ (τ.val y) z) (hze : ∀ u, τ.val y = .d u → u.okE = true) (hzw : z.width = ety.width) : Seen P false o τ { s := .fv d 1, gh := [(1000000 + d, .fa ⟨e, ety.width, [z]⟩)], nu := [d] } := by
  have hmy : y ∈ o.op.operands := by rw [ho]; simp [Op.operands]
  have hfl1 : fl [z] = z.fl := by simp [fl]
  refine .new hd hu (fun k h => h) (fun z' hz' j hj => ⟨y, hmy, hz.refs (by rw [← hfl1]; exact hz') hj fun u hu => okE_refs (hze u hu)⟩) fun τ0 hl X w0 M0 n ac w M γ hs => ?_
  have hzv := (hz.like hl hmy rfl).val hs (by rw [← hl.v y hmy]; exact hs.val y)
  have hu2 := (hT _ hm).und
  simp only at hu2
  have hsr := run_sizeOf (hT _ hE) (P := P) w
  have hzr := run_zero (hT _ hE) (P := P) w
  simp only at hsr hzr
  obtain ⟨hzs, _, hze'⟩ := (ety.zero_rep M).cells_one
  rw [ety.zero_width] at hzs
  have hcells := cellsOK_replicate (M := M) (n := 1) (us := ety.zeroV.cells.toList) (by rw [Array.length_toList, hzs, ety.zero_width]) hze'
  rw [ety.zero_width] at hcells
  have hmade : (madeCells ety.zeroV.cells (1 * ety.width)).toList = (List.replicate 1 ety.zeroV.cells.toList).flatten := by
    rw [← hzs]; exact toList_madeCells _ _ (by omega)
  rw [← hmade] at hcells
  obtain ⟨hrs, hws, hts⟩ := scD_rep hzv
  obtain ⟨cs', hfill, hcs'⟩ := fill_ok (M := M) (sz := ety.width) (place := fun i => some (i * ety.width, ety.width)) [(0, ac.eval y)] [scD (ac.eval y)] (List.replicate 1 ety.zeroD) _ hcells rfl (fun j p d hp hdj => by
    cases j with
    | zero => simp at hp hdj; subst hp; subst hdj; exact ⟨by simp, by simp, by rw [hws, hzv.len, hzw], hrs⟩
    | succ j => simp at hp)
  have hcs1 : CellsOK M ety.width [scD (ac.eval y)] cs'.toList := by simpa using hcs'
  have hel := (hcs1.2 0 _ rfl).2
  simp only [Nat.zero_mul] at hel
  have hlen := hcs1.1
  simp only [List.length_cons, List.length_nil, Nat.zero_add, Nat.one_mul, Array.length_toList] at hlen
  have hcs2 : cs'.toList = (ac.eval y).cells.toList := by
    rw [← hts hel, hzv.len, hzw, List.take_of_length_le (by simp [hlen])]
  refine ⟨.slice (some ⟨w.heap.size, 0, none⟩) 1 1, cs'.toList, ?_, by simp [hlen], fun x hx => by rw [List.mem_singleton.1 hx, hzw], fun p d' u h1 h2 => ?_, hw, by simp [maxLen], fun τ' γ' h1 h2 h3 => fvS (m := 1) rfl h1 h2 h3⟩
  · simp only [execOp, ho, Instr.buildSlice, bind_pure_comp, Sem.run_bind, Sem.run_map, Result.andThen_ok, run_underlying hu2, hsr]
    have eparts : ((#[(0, y)] : Array (Nat × Operand)).map fun x => match x with | (i, x) => (i, ac.eval x)).toList = [(0, ac.eval y)] := by simp
    rw [eparts, if_neg (by omega), if_neg (by omega)]
    simp only [Sem.run_bind, hzr, Sem.run_pure, Result.andThen_ok]
    have hm0 : (Array.range (1 * ety.width)).map (fun x => ety.zeroV.cells[x % ety.zeroV.cells.size]!) = madeCells ety.zeroV.cells (1 * ety.width) := rfl
    rw [hm0, hfill]
    simp [newRow]
  · rw [hcs2] at h2
    exact hzv.at' p d' u (by rw [← hfl1]; exact h1) h2

theorem feS {d : Nat} {B : Arr} {τ' : Ab} {γ' : Nat → Value} {g c : Nat} (hl : 0 < B.xs.length) (h1 : τ'.us d = true) (h2 : τ'.f d = some B) (h3 : γ' d = .slice (some ⟨g, 0, none⟩) B.xs.length c) : RepS M τ' γ' (.fe d 0) (.pointer (some ⟨g, 0, none⟩)) := by
  refine ⟨⟨h1, ⟨_, rfl, rfl⟩⟩, fun B' hB' => ?_⟩
  rw [h2] at hB'; cases hB'
  exact ⟨hl, g, by rw [h3]; rfl, by simp⟩

theorem Seen.allocT (hT : TOK P T) {o : Oper} {t : TypeId} {ty : Ty} {d : Nat} (ho : o.op = .alloc t) (hd : o.dst = some d) (hu : τ.us d = false) (hm : (t, ty) ∈ T) (hw : 0 < ty.width) : Seen P false o τ { s := .fe d 0, gh := [(1000000 + d, .fa ⟨t, ty.width, [ty.zeroD]⟩)], nu := [d] } := by
  have hfl1 : fl [ty.zeroD] = ty.zeroD.fl := by simp [fl]
  refine .new hd hu (fun k h => h) (fun z hz j hj => (zero_noref ty (by rw [← hfl1]; exact hz) hj).elim) fun τ0 hl X w0 M0 n ac w M γ hs => ?_
  have hr := run_zero (hT _ hm) (P := P) w
  simp only at hr
  have hone := cellsOK_one (ty.zero_rep M)
  rw [ty.zero_width] at hone
  refine ⟨.pointer (some ⟨w.heap.size, 0, none⟩), ty.zeroV.cells.toList, ?_, hone.1, (fl_cellsOK hw hone).1, cells_plain hw hone, hw, by simp [maxLen], fun τ' γ' h1 h2 h3 => feS (by simp) h1 h2 h3⟩
  simp [execOp, ho, Instr.alloc, hr, newVar, newRow]

theorem Seen.boxT {o : Oper} {t : TypeId} {x : Operand} {z : D} {d : Nat} (ho : o.op = .box t x) (hd : o.dst = some d) (hu : τ.us d = false) (hz : ToE τ (τ.val x) z) (hze : ∀ u, τ.val x = .d u → u.okE = true) (hw : 0 < z.width) : Seen P false o τ { s := .fe d 0, gh := [(1000000 + d, .fa ⟨t, z.width, [z]⟩)], nu := [d] } := by
  have hmx : x ∈ o.op.operands := by rw [ho]; simp [Op.operands]
  have hfl1 : fl [z] = z.fl := by simp [fl]
  refine .new hd hu (fun k h => h) (fun z' hz' j hj => ⟨x, hmx, hz.refs (by rw [← hfl1]; exact hz') hj fun u hu => okE_refs (hze u hu)⟩) fun τ0 hl X w0 M0 n ac w M γ hs => ?_
  have hzv := (hz.like hl hmx rfl).val hs (by rw [← hl.v x hmx]; exact hs.val x)
  refine ⟨.pointer (some ⟨w.heap.size, 0, none⟩), (ac.eval x).cells.toList, ?_, by simp [hzv.len], fun y hy => by rw [List.mem_singleton.1 hy], fun p d' u h1 h2 => hzv.at' p d' u (by rw [← hfl1]; exact h1) h2, hw, by simp [maxLen], fun τ' γ' h1 h2 h3 => feS (by simp) h1 h2 h3⟩
  simp [execOp, ho, Instr.box, newVar, newRow]

/-! ### Append -/
/-- What is appended, read where it stands. -/
inductive ToCR (τ : Ab) : S → List D → Prop
  | pl {s : S} {xs : List D} (h : ToCont τ s xs) : ToCR τ s xs
  | fv (j m : Nat) (B : Arr) (h : τ.f j = some B) (hm : m = B.xs.length) (hc : ∀ d ∈ fl B.xs, okR d = true) : ToCR τ (.fv j m) B.xs
theorem ToCR.like {wild : Bool} {o : Oper} {τ τ' : Ab} (hl : Like wild o τ τ') {x : Operand} (hx : x ∈ o.op.operands) {s : S} (hs : τ.val x = s) {ys : List D} (h : ToCR τ s ys) : ToCR τ' s ys := by
  cases h with
  | pl h => exact .pl (h.locl fun k hk => (hl.c k ⟨x, hx, by rw [hs]; exact hk⟩).1)
  | fv j m B h hm hc => exact .fv j m B (by rw [(hl.c j ⟨x, hx, by rw [hs]; rfl⟩).2]; exact h) hm hc
theorem rep_noref {us : Nat → Bool} {d : D} {u : Value} (h : Rep M d u) {j : Nat} (hj : refD d j) : False := by
  cases d <;> first | exact hj | cases h
theorem ToCR.at (h : SimW X w0 M0 n τ ac w M γ) {s : S} {ys : List D} (hc : ToCR τ s ys) {v : Value} (hv : RepS M τ γ s v) {sz : Nat} (hp : 0 < sz) (hw : ∀ y ∈ ys, y.width = sz) :
    ∃ (a : Option Addr) (cap : Nat) (news : List Value), v = .slice a ys.length cap ∧ news.length = (fl ys).length ∧ (∀ (p : Nat) (d : D) (u : Value), (fl ys)[p]? = some d → news[p]? = some u → d.isCell = true ∧ RepR M τ.us γ d u) ∧ ((a = none ∧ ys = []) ∨ ∃ ad, a = some ad ∧ ∀ j u, news[j]? = some u → w.cell? (ad.add j) = some u) := by
  cases hc with
  | pl hc =>
    obtain ⟨a, cap, news, h1, h2, h3⟩ := cont_at h hc hv hw
    exact ⟨a, cap, news, h1, by rw [h2.1, fl_len hw], cells_plain hp h2, h3⟩
  | fv j m B hB hm hcl =>
    obtain ⟨φ, cs, ψ, ht, hr⟩ := h.tree hB
    obtain ⟨_, e⟩ := hv.2 B hB
    have hlen := own_len hr.ho
    rw [hm, cutV_len hlen] at e
    rcases own_form hr.ho with ⟨hg, hn⟩ | ⟨g, cap, hg, hnc, hcm⟩
    · have hx : B.xs = [] := List.eq_nil_of_length_eq_zero hn
      rw [hg] at e
      refine ⟨none, 0, [], by rw [e, hx]; rfl, by rw [hx]; simp [fl], fun p d u h1 => by rw [hx] at h1; simp [fl] at h1, .inl ⟨rfl, hx⟩⟩
    · rw [hg] at e
      refine ⟨some ⟨g, 0, none⟩, cap, cs, e, hr.len, fun p d u h1 h2 => (hr.hc p d u h1 h2).okR (hcl d (List.mem_of_getElem? h1)), .inr ⟨_, rfl, fun j u hu => ?_⟩⟩
      exact hr.ho.cells (by rw [hg]; rfl) j u hu
theorem ToCR.refs (hs : SimW X w0 M0 n τ ac w M γ) {s : S} {ys : List D} (hc : ToCR τ s ys) {v : Value} (hv : RepS M τ γ s v) {sz : Nat} (hp : 0 < sz) (hw : ∀ y ∈ ys, y.width = sz) {y : D} (hy : y ∈ fl ys) {j : Nat} (hj : refD y j) : τ.us j = true := by
  obtain ⟨a, cap, news, _, h1, h2, _⟩ := hc.at hs hv hp hw
  obtain ⟨p, hpp⟩ := List.getElem?_of_mem hy
  have hpl := (List.getElem?_eq_some_iff.1 hpp).1
  obtain ⟨_, b⟩ := h2 p y _ hpp (List.getElem?_eq_getElem (by omega))
  cases y with
  | ref k m => rw [show j = k from hj]; exact b.1
  | _ => exact hj.elim

theorem run_append_raw (hT : TOK P T) {t e : TypeId} {ety : Ty} (hm : (t, .sl e) ∈ T) (hE : (e, ety) ∈ T) (hpos : 0 < ety.width) {ty : TypeId} {v : Value} {n : Nat} {cs : List Value} (hown : w.ownsRow 0 e ety.width v n cs)
    {a : Option Addr} {m cap : Nat} {news : List Value} (hnl : news.length = m * ety.width) (hone : ∀ u ∈ news, u.oneCell' = true) (hnews : (a = none ∧ m = 0) ∨ ∃ ad, a = some ad ∧ ∀ j u, news[j]? = some u → w.cell? (ad.add j) = some u)
    (hl : n + m ≤ 34359738368) : ∃ v' w', (Builtin.append_ #[t, t] ty #[v, .slice a m cap]).run P w = .ok v' w' ∧ w'.ownsRow 0 e ety.width v' (n + m) (cs ++ news) ∧ w.grownBy w' v.ownBlock ∧
      (v'.ownBlock = v.ownBlock ∨ v'.ownBlock = some w.heap.size) := by
  have hu := (hT _ hm).und
  simp only at hu
  obtain ⟨i, hi, his, hiz, hib⟩ := (hT _ hE).info
  simp only at hi his hiz
  obtain ⟨hzs, _, _⟩ := (ety.zero_rep (fun _ => none)).cells_one
  rw [ety.zero_width] at hzs
  rcases hnews with ⟨rfl, rfl⟩ | ⟨ad, rfl, hcell⟩
  · have hn : news = [] := List.eq_nil_of_length_eq_zero (by simpa using hnl)
    subst hn
    refine ⟨v, w, run_append_nil' w 0 t ty e i ety.width hu hi v n cs hown cap, by simpa using hown, ⟨rfl, rfl, rfl, Nat.le_refl _, fun _ _ _ => rfl⟩, .inl rfl⟩
  · have hb : (n + m) * i.bytes ≤ 140737488355328 := by
      have := Nat.mul_le_mul hl hib
      omega
    obtain ⟨v', w', h1, h2, h3, _, h5⟩ := run_append_own_at (P := P) w 0 t ty e i ety.zeroV ety.width i.bytes hu hi hiz his rfl hzs hpos v n cs hown ad m cap news hnl hcell hone
      (by simp only [maxLen]; omega) hb (Nat.zero_le _)
    exact ⟨v', w', h1, h2, h3, h5⟩

theorem Seen.append (hT : TOK P T) {o : Oper} {t : TypeId} {x y : Operand} {e : TypeId} {ety : Ty} {k m d : Nat} {B : Arr} {ys : List D} (ho : o.op = .call { callee := .builtin .append, args := #[x, y], argTypes := #[t, t] }) (hd : o.dst = some d) (hu : τ.us d = false)
    (hm : (t, .sl e) ∈ T) (hE : (e, ety) ∈ T) (hx : τ.val x = .fv k m) (hB : τ.f k = some B) (hmB : m = B.xs.length) (he : B.e = e) (hsz : ety.width = B.sz) (hy : ToCR τ (τ.val y) ys) (hyd : ∀ xs, τ.val y = .d (.sl xs) → ∀ z ∈ fl xs, z.isRef = false) (hya : ∀ j m' A, τ.val y = .av j m' → τ.c j = some A → ∀ z ∈ fl (A.xs.take m'), z.isRef = false) (hyw : ∀ j l m', τ.val y ≠ .aw j l m') (hw : ∀ z ∈ ys, z.width = ety.width)
    (hl : m + ys.length ≤ 34359738368) : Seen P true o τ { s := .fv d (m + ys.length), gh := [(1000000 + k, .junk), (1000000 + d, .fa ⟨B.e, B.sz, B.xs ++ ys⟩)], nu := [d] } := by
  have hmx : x ∈ o.op.operands := by rw [ho]; simp [Op.operands, Call.operands]
  have hmy : y ∈ o.op.operands := by rw [ho]; simp [Op.operands, Call.operands]
  have hrk : Refs o τ k := refs_of hmx (by rw [hx]; rfl)
  refine ⟨fun h => (by cases h), fun k h => (by cases h), fun k A h => (by cases h), fun k h => (by simp at h), fun k A h => (by cases h), fun k' h => ?_, fun p hp => ?_, fun k' hk' => ?_, fun τ0 hlk => ?_⟩
  · rw [List.mem_singleton.1 h]; exact ⟨hu, d, hd, .inl rfl⟩
  · rcases List.mem_cons.1 hp with rfl | hp
    · exact ⟨k, rfl, .inl hrk⟩
    · rw [List.mem_singleton.1 hp]; exact ⟨d, rfl, .inr (List.mem_singleton.2 rfl)⟩
  · rcases hk' with hk' | ⟨p, hp, hk'⟩
    · exact .inr (.inl (List.mem_singleton.2 hk'))
    · rcases List.mem_cons.1 hp with rfl | hp
      · exact hk'.elim
      · rw [List.mem_singleton.1 hp] at hk'
        obtain ⟨z, hz, hj⟩ := hk'
        have hz : z ∈ fl (B.xs ++ ys) := hz
        rw [fl_append] at hz
        rcases List.mem_append.1 hz with hz | hz
        · exact .inl (reach_fl hrk hB hz hj)
        · have nr : z.isRef = false → False := fun h => by cases z <;> first | exact hj | cases h
          generalize hs : τ.val y = s at hy hyd hya hyw
          cases hy with
          | pl h =>
            cases h with
            | d xs => exact (nr (hyd _ rfl z hz)).elim
            | nil => simp [fl] at hz
            | av j m' A hA => exact (nr (hya j m' A rfl hA z hz)).elim
            | aw j l m' A hA => exact absurd rfl (hyw j l m')
          | fv j m' B' hB' hm' hc => exact .inl (reach_fl (refs_of hmy (by rw [hs]; rfl)) hB' hz hj)
  · intro X w0 M0 n ac w M γ hdn h Q
    have hB0 : τ0.f k = some B := by rw [(hlk.c k hrk).2]; exact hB
    have hu0 := (hlk.u d hd d (.inl rfl) hu).1
    obtain ⟨φ, cs, ψ, ht, hrow⟩ := h.tree hB0
    have h1 := h.val x
    rw [hlk.v x hmx, hx] at h1
    obtain ⟨_, hv⟩ := h1.2 B hB0
    rw [hmB, cutV_len (own_len hrow.ho)] at hv
    have hyv : RepS M τ0 γ (τ.val y) (ac.eval y) := by rw [← hlk.v y hmy]; exact h.val y
    obtain ⟨a, cap, news, hvy, hnl, hnc, hat⟩ := (hy.like hlk hmy rfl).at h hyv (sz := ety.width) (by rw [hsz]; exact hrow.hp) hw
    have hone : ∀ u ∈ news, u.oneCell' = true := fun u hu' => by
      obtain ⟨p, hp⟩ := List.getElem?_of_mem hu'
      have hpl := (List.getElem?_eq_some_iff.1 hp).1
      obtain ⟨a, b⟩ := hnc p _ u (List.getElem?_eq_getElem (by omega)) hp
      exact (b.cellT a (w := w) (fun _ => False)).oneCell
    have hown := hrow.ho
    rw [he, ← hsz] at hown
    obtain ⟨v', w', hr, hown', hgr, hob⟩ := run_append_raw (P := P) (T := T) hT hm hE (by rw [hsz]; exact hrow.hp) (ty := o.type) hown (m := ys.length) (cap := cap) (by rw [hnl, fl_len hw]) hone (hat.imp (fun ⟨h1, h2⟩ => ⟨h1, by rw [h2]; rfl⟩) id) (by omega)
    have hrun := run_append_op (P := P) ho hv hvy hr
    rw [hsz, ← he] at hown'
    have hsim := h.tapp hB0 hu0 (hdn d hd) (ys := ys) (news := news) ht hrow (fun z hz => by rw [hw z hz, hsz]) hnc hnl hgr hown' (fun g hg => by
      rcases hob with e | e
      · exact .inl (e ▸ hg)
      · rw [e] at hg; exact .inr (Option.some.inj hg).symm)
    refine wp_value hrun (.of (hsim.put hdn ⟨⟨by rw [gho_us]; simp, by rw [hmB]; exact own_len hown'⟩, fun B' hB' => ?_⟩))
    have hdk : d ≠ k := fun e => by rw [e, (f_us h hB0).1] at hu0; cases hu0
    have : B' = ⟨B.e, B.sz, B.xs ++ ys⟩ := by
      rw [gho_f] at hB'
      simp only [lkG] at hB'
      rw [if_neg (by omega)] at hB'
      simpa using hB'.symm
    subst this
    refine ⟨by rw [hmB, List.length_append]; exact Nat.le_refl _, ?_⟩
    have : LenV v' (m + ys.length) := by rw [hmB]; exact own_len hown'
    rw [show upd γ d v' d = v' by simp [upd], cutV_len this]
/-! ### A struct whose empty slices are known to be nil -/
theorem Seen.buildZ (hT : TOK P T) {o : Oper} {t : TypeId} {parts : Array (Nat × Operand)} {Fs : List F} {vs : List Value} (ho : o.op = .build t parts) (hm : (t, .st Fs) ∈ T) (hx : parts.toList.map (fun p => τ.val p.2) = vs.map (fun v => S.d (.sc v))) (hi : ∀ p ∈ parts.toList, p.1 < Fs.length) :
    Seen P false o τ { s := .d (.agg (((parts.toList.map (·.1)).zip (vs.map .sc)).foldl (fun xs q => xs.set q.1 q.2) (Fs.map fun f => .sc f.zeroV))) } := by
  refine Seen.ofS (fun k h => h.elim) fun τ0 hl => ?_
  intro X w0 M0 n ac w M γ hs
  have hlen : vs.length = parts.toList.length := by have := congrArg List.length hx; simpa using this.symm
  have hmem : ∀ p ∈ parts.toList, p.2 ∈ o.op.operands := fun p hp => by
    rw [ho]
    simp only [Op.operands]
    exact Array.mem_def.2 (by simpa using ⟨p.1, Array.mem_def.2 hp⟩)
  have hv : ∀ (j : Nat) (p : Nat × Operand) (v : Value), parts.toList[j]? = some p → vs[j]? = some v → Rep M (.sc v) (ac.eval p.2) := fun j p v hp hv => by
    have h1 := congrArg (fun l => l[j]?) hx
    simp only [List.getElem?_map, hp, hv, Option.map_some, Option.some.injEq] at h1
    have h2 := hs.val p.2
    rw [hl.v p.2 (hmem p (List.mem_of_getElem? hp)), h1] at h2
    exact h2
  have hz : ∀ f : F, (f.zeroV).oneCell' = true := fun f => by cases f <;> rfl
  obtain ⟨fds, hun, hsz, hfs, _⟩ := (hT _ hm).und
  have hcells : CellsOK M 1 (Fs.map fun f => D.sc f.zeroV) (Fs.map F.zeroV) := by
    refine ⟨by simp, fun j x hj => ?_⟩
    rw [List.getElem?_map] at hj
    cases hf : Fs[j]? with
    | none => simp [hf] at hj
    | some f =>
      simp [hf] at hj; subst hj
      exact ⟨rfl, fun _ => ⟨f.zeroV, by simp [hf], .sc _ (hz f)⟩, fun fs hfs => by cases hfs⟩
  obtain ⟨cs', hfill, hcs'⟩ := fill_ok (M := M) (sz := 1) (place := fun i => (fds.map fun f => (f.offset, 1))[i]?) (parts.toList.map fun p => (p.1, ac.eval p.2)) (vs.map .sc) (Fs.map fun f => D.sc f.zeroV) (Fs.map F.zeroV).toArray (by simpa using hcells)
    (by simp [hlen]) (fun j p d hp hdj => by
      rw [List.getElem?_map] at hp hdj
      cases hq : parts.toList[j]? with
      | none => simp [hq] at hp
      | some q =>
        cases hvq : vs[j]? with
        | none => simp [hvq] at hdj
        | some v =>
          simp [hq] at hp; subst hp
          simp [hvq] at hdj; subst hdj
          have hil := hi q (List.mem_of_getElem? hq)
          obtain ⟨fd, hfd, hoff, _⟩ := hfs q.1 _ (List.getElem?_eq_getElem hil)
          exact ⟨by simp [hfd, hoff], by simpa using hil, rfl, hv j q v hq hvq⟩)
  have hall : ∀ f ∈ fds.toList, ∃ i, P.info? f.type = some i ∧ i.size = 1 := fun f hf => by
    obtain ⟨j, hj⟩ := List.getElem?_of_mem hf
    have hjl : j < Fs.length := by have := (List.getElem?_eq_some_iff.1 hj).1; simpa [hsz] using this
    obtain ⟨fd, hfd, _, _, h3, _⟩ := hfs j _ (List.getElem?_eq_getElem hjl)
    have e : fd = f := by
      have h4 : fds[j]? = some f := by simpa using hj
      rw [hfd] at h4
      exact Option.some.inj h4
    subst e
    exact h3
  have hpl : (fds.mapM fun f => Prod.mk f.offset <$> sizeOf f.type).run P w = .ok (fds.map fun f => (f.offset, 1)) w := by
    have h2 := run_places (P := P) w fds.toList _ (places_ok fds.toList hall)
    rw [Array.mapM_eq_mapM_toList, Sem.run_map, h2]
    simp only [Result.andThen_ok]
    congr 1
    apply Array.ext'
    simp
  have hzr := run_zero (hT _ hm) (P := P) w
  simp only at hzr
  have hrun : (execOp ac.eval o).run P w = .ok (.value (.agg cs')) w := by
    simp only [execOp, ho, Instr.build, bind_pure_comp, Sem.run_bind, Sem.run_map, hzr, Result.andThen_ok, run_underlying hun, hpl]
    have e : (parts.map fun x => match x with | (i, x) => (i, ac.eval x)).toList = parts.toList.map fun p => (p.1, ac.eval p.2) := by simp
    rw [e]
    have e2 : (Ty.st Fs).zeroV.cells = (Fs.map F.zeroV).toArray := rfl
    rw [e2]
    rw [hfill]
    rfl
  refine ⟨_, hrun, ?_⟩
  rw [zip_fst (ρ := ac.eval)] at hcs'
  have hlen2 := hcs'.1
  rw [Nat.mul_one] at hlen2
  have := rep_agg_list (M := M) hlen2 (fun i f hif => by
    obtain ⟨hw1, hel⟩ := hcs'.2 i f hif
    have hcell : f.isCell = true := foldl_set_cells _ _ (fun x hx => by obtain ⟨g, _, rfl⟩ := List.mem_map.1 hx; rfl) (fun q hq => by obtain ⟨v, _, hv⟩ := List.mem_map.1 (List.of_mem_zip hq).2; rw [← hv]; rfl) f (List.mem_of_getElem? hif)
    obtain ⟨v, a, b⟩ := hel.1 hcell
    exact ⟨hcell, v, by simpa using a, b⟩)
  simpa [RepS] using this
end
end Go.DL
