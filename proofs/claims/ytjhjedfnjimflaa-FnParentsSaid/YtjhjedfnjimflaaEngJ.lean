/- Part of an evaluator of Go code on plain data, proved sound for the model: lemmas alone, for every program; each states its own conditions. -/
import Derived.Test.YtjhjedfnjimflaaEngI
namespace Go.DL
open Go.RowKit

/-! ### What a slot refers to; an operation looks at its operands alone -/
def refT : T1 → Nat → Prop
  | .av k _, j => j = k
  | .d _, _ => False
def refS : S → Nat → Prop
  | .av k _, j => j = k
  | .ae k _, j => j = k
  | .af k _ _, j => j = k
  | .tup xs, j => ∃ t ∈ xs, refT t j
  | _, _ => False

def WF (τ : Ab) : Prop := ∀ t k, refS (τ.s t) k → τ.us k = true

theorem RepS.ref {M : Mem} {τ : Ab} {γ : Nat → Value} {s : S} {v : Value} (h : RepS M τ γ s v) {k : Nat} (hk : refS s k) : τ.us k = true := by
  cases s with
  | av j m => rw [show k = j from hk]; exact h.1
  | ae j i => rw [show k = j from hk]; exact h.1
  | af j i f => rw [show k = j from hk]; exact h.1
  | tup xs =>
    obtain ⟨vs, _, _, h3⟩ := h
    obtain ⟨t, ht, hr⟩ := hk
    obtain ⟨j, hj⟩ := List.getElem?_of_mem ht
    have := h3 j t hj
    cases t with
    | d x => exact hr.elim
    | av i m => rw [show k = i from hr]; exact this.1
  | _ => exact hk.elim

theorem Sim.wf {X : Env} {w0 : World} {M0 : Mem} {n : Nat} {τ : Ab} {ac : Act} {w : World} (h : Sim X w0 M0 n τ ac w) : WF τ := by
  obtain ⟨M, γ, h⟩ := h
  exact fun t k hk => (h.slots t).ref hk

def seen (o : Oper) (x : Operand) : Prop := x ∈ o.op.operands

theorem boundOf_local {ν ν' : Operand → S} {x : Option Operand} {d r : Nat} (hx : ∀ y, x = some y → ν' y = ν y) (h : boundOf ν x d r) : boundOf ν' x d r := by
  cases x with
  | none => exact h
  | some y => obtain ⟨k, hk⟩ := h; exact ⟨k, by rw [hx y rfl]; exact hk⟩

theorem PEff.locl {P : Program} {T : Tys} {op : Op} {ν ν' : Operand → S} {s : S} (h : PEff P T op ν s) (hx : ∀ x ∈ op.operands, ν' x = ν x) : PEff P T op ν' s := by
  cases h with
  | move x => rw [← hx x (by simp [Op.operands])]; exact .move x
  | assign x => rw [← hx x (by simp [Op.operands])]; exact .assign x
  | pick c a b t h =>
    have := PEff.pick (P := P) (T := T) (ν := ν') c a b t (by rw [hx c (by simp [Op.operands])]; exact h)
    rwa [hx a (by simp [Op.operands]), hx b (by simp [Op.operands])] at this
  | bin op t x y yt u v r h1 h2 h => exact .bin op t x y yt u v r (by rw [hx x (by simp [Op.operands])]; exact h1) (by rw [hx y (by simp [Op.operands])]; exact h2) h
  | eqA t x y yt Fs fs gs b hT h1 h2 he => exact .eqA t x y yt Fs fs gs b hT (by rw [hx x (by simp [Op.operands])]; exact h1) (by rw [hx y (by simp [Op.operands])]; exact h2) he
  | neA t x y yt Fs fs gs b hT h1 h2 he => exact .neA t x y yt Fs fs gs b hT (by rw [hx x (by simp [Op.operands])]; exact h1) (by rw [hx y (by simp [Op.operands])]; exact h2) he
  | un op t x u r h1 h => exact .un op t x u r (by rw [hx x (by simp [Op.operands])]; exact h1) h
  | field t x f Fs fs y hT hl h1 hf => exact .field t x f Fs fs y hT hl (by rw [hx x (by simp [Op.operands])]; exact h1) hf
  | fieldE t x f Fs fs y hT hl h1 hf => exact .fieldE t x f Fs fs y hT hl (by rw [hx x (by simp [Op.operands])]; exact h1) hf
  | indexD t x ix e ety xs kd j y hT hE h1 h2 h0 hy hw => exact .indexD t x ix e ety xs kd j y hT hE (by rw [hx x (by simp [Op.operands])]; exact h1) (by rw [hx ix (by simp [Op.operands])]; exact h2) h0 hy hw
  | indexS t x ix s kd j b hT h1 h2 h0 hb => exact .indexS t x ix s kd j b hT (by rw [hx x (by simp [Op.operands])]; exact h1) (by rw [hx ix (by simp [Op.operands])]; exact h2) h0 hb
  | sliceD t x lo hi e ety xs l h hT hE h1 hlo hhi hlh hh hw =>
    exact .sliceD t x lo hi e ety xs l h hT hE (by rw [hx x (by simp [Op.operands])]; exact h1) (boundOf_local (fun y hy => hx y (by subst hy; simp [Op.operands])) hlo)
      (boundOf_local (fun y hy => hx y (by subst hy; simp [Op.operands])) hhi) hlh hh hw
  | extract x i xs r h1 hi => exact .extract x i xs r (by rw [hx x (by simp [Op.operands])]; exact h1) hi
  | lenD t x e xs hT h1 => exact .lenD t x e xs hT (by rw [hx x (by simp [Op.operands, Call.operands])]; exact h1)
  | lenN t x e hT h1 => exact .lenN t x e hT (by rw [hx x (by simp [Op.operands, Call.operands])]; exact h1)
  | lenS t x s hT h1 => exact .lenS t x s hT (by rw [hx x (by simp [Op.operands, Call.operands])]; exact h1)
  | min x y t a b h1 h2 => exact .min x y t a b (by rw [hx x (by simp [Op.operands, Call.operands])]; exact h1) (by rw [hx y (by simp [Op.operands, Call.operands])]; exact h2)
  | max x y t a b h1 h2 => exact .max x y t a b (by rw [hx x (by simp [Op.operands, Call.operands])]; exact h1) (by rw [hx y (by simp [Op.operands, Call.operands])]; exact h2)
  | mkfn f => exact .mkfn f
  | conv src dst x k k' m sty hs hd h1 => exact .conv src dst x k k' m sty hs hd (by rw [hx x (by simp [Op.operands])]; exact h1)

/-- τ' shows the operands of o the same, and what they refer to. -/
structure Same (o : Oper) (τ τ' : Ab) : Prop where
  v : ∀ x ∈ o.op.operands, τ'.val x = τ.val x
  c : ∀ x ∈ o.op.operands, ∀ k, refS (τ.val x) k → τ'.c k = τ.c k
  u : ∀ d, o.dst = some d → τ.us d = false → τ'.us d = false

theorem ToD.locl {τ τ' : Ab} {s : S} {x : D} {ks : List Nat} (h : ToD τ s x ks) (hc : ∀ k, refS s k → τ'.c k = τ.c k) : ToD τ' s x ks := by
  cases h with
  | d => exact .d x
  | nil => exact .nil
  | av k m A hA => exact .av k m A (by rw [hc k rfl]; exact hA)
theorem ToCont.locl {τ τ' : Ab} {s : S} {x : List D} (h : ToCont τ s x) (hc : ∀ k, refS s k → τ'.c k = τ.c k) : ToCont τ' s x := by
  cases h with
  | d => exact .d x
  | nil => exact .nil
  | av k m A hA => exact .av k m A (by rw [hc k rfl]; exact hA)
theorem ToDs.locl {τ τ' : Ab} {ss : List S} {xs : List D} {ks : List Nat} (h : ToDs τ ss xs ks) (hc : ∀ s ∈ ss, ∀ k, refS s k → τ'.c k = τ.c k) : ToDs τ' ss xs ks := by
  induction h with
  | nil => exact .nil
  | cons h t ih => exact .cons (h.locl (hc _ List.mem_cons_self)) (ih fun s hs => hc s (List.mem_cons_of_mem _ hs))
theorem ToA.locl {τ τ' : Ab} {s : S} {x : A1} {ks : List Nat} (h : ToA τ s x ks) (hc : ∀ k, refS s k → τ'.c k = τ.c k) : ToA τ' s x ks := by
  cases h with
  | d h => exact .d (h.locl hc)
  | fn f => exact .fn f
theorem ToAs.locl {τ τ' : Ab} {ss : List S} {xs : List A1} {ks : List Nat} (h : ToAs τ ss xs ks) (hc : ∀ s ∈ ss, ∀ k, refS s k → τ'.c k = τ.c k) : ToAs τ' ss xs ks := by
  induction h with
  | nil => exact .nil
  | cons h t ih => exact .cons (h.locl (hc _ List.mem_cons_self)) (ih fun s hs => hc s (List.mem_cons_of_mem _ hs))

theorem TEff.locl {P : Program} {T : Tys} {o : Oper} {τ τ' : Ab} {e : Ef} (h : TEff P T o τ e) (hs : Same o τ τ') : TEff P T o τ' e := by
  obtain ⟨hv, hc, hu⟩ := hs
  cases h with
  | pure s h => exact .pure s (h.locl hv)
  | alloc t ty d ho hd hus hT hw => exact .alloc t ty d ho hd (hu d hd hus) hT hw
  | box t x y ks d ho hd hus hx hw =>
    have hm : x ∈ o.op.operands := by rw [ho]; simp [Op.operands]
    exact .box t x y ks d ho hd (hu d hd hus) (by rw [hv x hm]; exact hx.locl (hc x hm)) hw
  | build t parts Fs ds ks ho hT hx hcl hi =>
    have hm : ∀ p ∈ parts.toList, p.2 ∈ o.op.operands := fun p hp => by rw [ho]; simp only [Op.operands, List.mem_toArray, List.mem_map]; exact ⟨p, hp, rfl⟩
    refine .build t parts Fs ds ks ho hT ?_ hcl hi
    have e : (parts.toList.map fun p => τ'.val p.2) = parts.toList.map fun p => τ.val p.2 := List.map_congr_left fun p hp => hv p.2 (hm p hp)
    rw [e]
    exact hx.locl fun s hs k hk => by obtain ⟨p, hp, rfl⟩ := List.mem_map.1 hs; exact hc p.2 (hm p hp) k hk
  | buildSlice t len parts e ety ds ks d ho hd hus hT hE hx hcl hi hw hl =>
    have hm : ∀ p ∈ parts.toList, p.2 ∈ o.op.operands := fun p hp => by rw [ho]; simp only [Op.operands, List.mem_toArray, List.mem_map]; exact ⟨p, hp, rfl⟩
    refine .buildSlice t len parts e ety ds ks d ho hd (hu d hd hus) hT hE ?_ hcl hi hw hl
    have e : (parts.toList.map fun p => τ'.val p.2) = parts.toList.map fun p => τ.val p.2 := List.map_congr_left fun p hp => hv p.2 (hm p hp)
    rw [e]
    exact hx.locl fun s hs k hk => by obtain ⟨p, hp, rfl⟩ := List.mem_map.1 hs; exact hc p.2 (hm p hp) k hk
  | makeSlice t x y m k k' e ety d ho hd hus hT hE hx hy hm hw =>
    exact .makeSlice t x y m k k' e ety d ho hd (hu d hd hus) hT hE (by rw [hv x (by rw [ho]; simp [Op.operands])]; exact hx) (by rw [hv y (by rw [ho]; simp [Op.operands])]; exact hy) hm hw
  | loadE t x y ty ho hT hx hf => exact .loadE t x y ty ho hT (by rw [hv x (by rw [ho]; simp [Op.operands])]; exact hx) hf
  | loadA t x k i A y ty ho hT hx hA hy hf =>
    have hm : x ∈ o.op.operands := by rw [ho]; simp [Op.operands]
    exact .loadA t x k i A y ty ho hT (by rw [hv x hm]; exact hx) (by rw [hc x hm k (by rw [hx]; rfl)]; exact hA) hy hf
  | loadF t x k i f A fs y ty ho hT hx hA hi hy hf =>
    have hm : x ∈ o.op.operands := by rw [ho]; simp [Op.operands]
    exact .loadF t x k i f A fs y ty ho hT (by rw [hv x hm]; exact hx) (by rw [hc x hm k (by rw [hx]; rfl)]; exact hA) hi hy hf
  | fieldA t x f Fs k i A ho hT hl hx hA =>
    have hm : x ∈ o.op.operands := by rw [ho]; simp [Op.operands]
    exact .fieldA t x f Fs k i A ho hT hl (by rw [hv x hm]; exact hx) (by rw [hc x hm k (by rw [hx]; rfl)]; exact hA)
  | sliceA t x hi e ety k m h A ho hT hE hx hA hhi hh =>
    have hm : x ∈ o.op.operands := by rw [ho]; simp [Op.operands]
    exact .sliceA t x hi e ety k m h A ho hT hE (by rw [hv x hm]; exact hx) (by rw [hc x hm k (by rw [hx]; rfl)]; exact hA) (boundOf_local (fun y hy => hv y (by rw [ho]; subst hy; simp [Op.operands])) hhi) hh
  | indexA t x ix e ety k m j kd A ho hT hE hx hA hsz hi hj =>
    have hm : x ∈ o.op.operands := by rw [ho]; simp [Op.operands]
    exact .indexA t x ix e ety k m j kd A ho hT hE (by rw [hv x hm]; exact hx) (by rw [hc x hm k (by rw [hx]; rfl)]; exact hA) hsz (by rw [hv ix (by rw [ho]; simp [Op.operands])]; exact hi) hj
  | lenA t x e k m A ho hT hx hA =>
    have hm : x ∈ o.op.operands := by rw [ho]; simp [Op.operands, Call.operands]
    exact .lenA t x e k m A ho hT (by rw [hv x hm]; exact hx) (by rw [hc x hm k (by rw [hx]; rfl)]; exact hA)
  | nilA x k i A ho hx hA =>
    have hm : x ∈ o.op.operands := by rw [ho]; simp [Op.operands]
    exact .nilA x k i A ho (by rw [hv x hm]; exact hx) (by rw [hc x hm k (by rw [hx]; rfl)]; exact hA)
  | call fx args tys f as ks r s al ho hf hx hct hr =>
    have hm : ∀ p ∈ args.toList, p ∈ o.op.operands := fun p hp => by rw [ho]; simp only [Op.operands, Call.operands]; exact Array.mem_append.2 (.inr (Array.mem_def.2 hp))
    have hr' : ResE τ' o.dst r s al := by
      cases hr with
      | d x => exact .d x
      | own A d h1 h2 => exact .own A d h1 (hu d h1 h2)
      | ptr A d h1 h2 => exact .ptr A d h1 (hu d h1 h2)
      | tupd x rest => exact .tupd x rest
      | tupo A rest d h1 h2 => exact .tupo A rest d h1 (hu d h1 h2)
    refine .call fx args tys f as ks r s al ho (by rw [hv fx (by rw [ho]; simp [Op.operands, Call.operands])]; exact hf) ?_ hct hr'
    have e : args.toList.map τ'.val = args.toList.map τ.val := List.map_congr_left fun p hp => hv p (hm p hp)
    rw [e]
    exact hx.locl fun s hs k hk => by obtain ⟨p, hp, rfl⟩ := List.mem_map.1 hs; exact hc p (hm p hp) k hk
  | callFlat fx args tys f as ks r s ho hf hx hct hr =>
    have hm : ∀ p ∈ args.toList, p ∈ o.op.operands := fun p hp => by rw [ho]; simp only [Op.operands, Call.operands]; exact Array.mem_append.2 (.inr (Array.mem_def.2 hp))
    refine .callFlat fx args tys f as ks r s ho (by rw [hv fx (by rw [ho]; simp [Op.operands, Call.operands])]; exact hf) ?_ hct hr
    have e : args.toList.map τ'.val = args.toList.map τ.val := List.map_congr_left fun p hp => hv p (hm p hp)
    rw [e]
    exact hx.locl fun s hs k hk => by obtain ⟨p, hp, rfl⟩ := List.mem_map.1 hs; exact hc p (hm p hp) k hk

theorem ToLs.locl {τ τ' : Ab} {k : Nat} {A : Option Arr} {ss : List S} {xs : List A2} {ks : List Nat} (h : ToLs τ k A ss xs ks) (hc : ∀ s ∈ ss, ∀ j, refS s j → τ'.c j = τ.c j) : ToLs τ' k A ss xs ks := by
  induction h with
  | nil => exact .nil
  | cons h t ih => exact .cons (h.locl fun j hj => hc _ List.mem_cons_self j (by obtain ⟨m, e⟩ := hj; subst e; rfl)) (ih fun s hs => hc s (List.mem_cons_of_mem _ hs))
theorem ResE.usd {τ τ' : Ab} {dst : Option Nat} {r : Res} {s : S} {al : Option (Nat × Arr)} (h : ResE τ dst r s al) (hu : ∀ d, dst = some d → τ.us d = false → τ'.us d = false) : ResE τ' dst r s al := by
  cases h with
  | d x => exact .d x
  | own A d h1 h2 => exact .own A d h1 (hu d h1 h2)
  | ptr A d h1 h2 => exact .ptr A d h1 (hu d h1 h2)
  | tupd x rest => exact .tupd x rest
  | tupo A rest d h1 h2 => exact .tupo A rest d h1 (hu d h1 h2)
theorem args_mem {o : Oper} {fx : Operand} {args : Array Operand} {tys : Array TypeId} (ho : o.op = .call { callee := .value fx, args, argTypes := tys }) : ∀ p ∈ args.toList, p ∈ o.op.operands := fun p hp => by
  rw [ho]; simp only [Op.operands, Call.operands]; exact Array.mem_append.2 (.inr (Array.mem_def.2 hp))
theorem WEff.locl {P : Program} {T : Tys} {R : List Nat} {o : Oper} {τ τ' : Ab} {e : Ef} (h : WEff P T R o τ e) (hv : ∀ x ∈ o.op.operands, τ'.val x = τ.val x) (hc : τ'.c = τ.c) (hs : τ'.sh = τ.sh) (hu : τ'.us = τ.us) : WEff P T R o τ' e := by
  have hss : ∀ ks : List Nat, (τ'.shares ks).sh = (τ.shares ks).sh := fun ks => by
    clear hv h hc hu
    induction ks generalizing τ τ' with
    | nil => exact hs
    | cons k ks ih => exact ih (τ := τ.share k) (τ' := τ'.share k) (by simp [Ab.share, hs])
  cases h with
  | storeA t x y k i A z ks ty ho hT hx hA hy hsh hi hz hw =>
    exact .storeA t x y k i A z ks ty ho hT (by rw [hv x (by rw [ho]; simp [Op.operands])]; exact hx) (by rw [hc]; exact hA) (by rw [hv y (by rw [ho]; simp [Op.operands])]; exact hy.of_c hc) (by rw [hss]; exact hsh) hi hz hw
  | storeF t x y k i f A fs z ks ty ho hT hx hA hy hsh hi hf hz hw =>
    exact .storeF t x y k i f A fs z ks ty ho hT (by rw [hv x (by rw [ho]; simp [Op.operands])]; exact hx) (by rw [hc]; exact hA) (by rw [hv y (by rw [ho]; simp [Op.operands])]; exact hy.of_c hc) (by rw [hss]; exact hsh) hi hf hz hw
  | appendA t x y e ety k m d A ys ho hd hus hds hT hE hx hA hsh he hsz hy hw hl =>
    refine .appendA t x y e ety k m d A ys ho hd (by rw [hu]; exact hus) (by rw [hs]; exact hds) hT hE (by rw [hv x (by rw [ho]; simp [Op.operands, Call.operands])]; exact hx) (by rw [hc]; exact hA) (by rw [hs]; exact hsh) he hsz ?_ hw hl
    rw [hv y (by rw [ho]; simp [Op.operands, Call.operands])]
    exact hy.locl fun k _ => by rw [hc]
  | appendN t x y e ety d ys ho hd hus hT hE hp hx hy hw hl =>
    refine .appendN t x y e ety d ys ho hd (by rw [hu]; exact hus) hT hE hp (by rw [hv x (by rw [ho]; simp [Op.operands, Call.operands])]; exact hx) ?_ hw hl
    rw [hv y (by rw [ho]; simp [Op.operands, Call.operands])]
    exact hy.locl fun k _ => by rw [hc]
  | lcall fx args tys f as ks k A r xs s al ho hfx hL hx hk hA hsh hct hr =>
    have hm := args_mem ho
    have e : args.toList.map τ'.val = args.toList.map τ.val := List.map_congr_left fun p hp => hv p (hm p hp)
    refine .lcall fx args tys f as ks k A r xs s al ho hfx hL (by rw [e]; exact hx.locl fun s _ j _ => by rw [hc]) ?_ (by rw [hc]; exact hA) (by rw [hss]; exact hsh) hct (hr.usd fun d _ h => by rw [hu]; exact h)
    obtain ⟨p, hp, h1⟩ := hk
    exact ⟨p, hp, by rw [hv p (hm p hp)]; exact h1⟩
end Go.DL
