/- Parts of an evaluator of Go code on plain data, proved sound for the model: lemmas alone, for every program; each states its own conditions. -/
import Derived.Test.YtjhjedfnjimflaaEngI
namespace Go.DL
open Go.RowKit

/-! ### What a slot refers to; an operation looks at its operands alone -/
def refT : T1 → Nat → Prop
  | .av k _, j => j = k
  | .d _, _ => False
def refS : S → Nat → Prop
  | .av k _, j => j = k
  | .ae k _, j => j = k
  | .af k _ _, j => j = k
  | .tup xs, j => ∃ t ∈ xs, refT t j
  | _, _ => False

def WF (τ : Ab) : Prop := ∀ t k, refS (τ.s t) k → τ.us k = true

theorem RepS.ref {M : Mem} {τ : Ab} {γ : Nat → Value} {s : S} {v : Value} (h : RepS M τ γ s v) {k : Nat} (hk : refS s k) : τ.us k = true := by
  cases s with
  | av j m => rw [show k = j from hk]; exact h.1.1
  | ae j i => rw [show k = j from hk]; exact h.1
  | af j i f => rw [show k = j from hk]; exact h.1
  | tup xs =>
    obtain ⟨vs, _, _, h3⟩ := h
    obtain ⟨t, ht, hr⟩ := hk
    obtain ⟨j, hj⟩ := List.getElem?_of_mem ht
    have := h3 j t hj
    cases t with
    | d x => exact hr.elim
    | av i m => rw [show k = i from hr]; exact this.1.1
  | _ => exact hk.elim

theorem Sim.wf {X : Env} {w0 : World} {M0 : Mem} {n : Nat} {τ : Ab} {ac : Act} {w : World} (h : Sim X w0 M0 n τ ac w) : WF τ := by
  obtain ⟨M, γ, h⟩ := h
  exact fun t k hk => (h.slots t).ref hk

def seen (o : Oper) (x : Operand) : Prop := x ∈ o.op.operands

theorem boundOf_local {ν ν' : Operand → S} {x : Option Operand} {d r : Nat} (hx : ∀ y, x = some y → ν' y = ν y) (h : boundOf ν x d r) : boundOf ν' x d r := by
  cases x with
  | none => exact h
  | some y => obtain ⟨k, hk⟩ := h; exact ⟨k, by rw [hx y rfl]; exact hk⟩

theorem PEff.locl {P : Program} {T : Tys} {op : Op} {ν ν' : Operand → S} {s : S} (h : PEff P T op ν s) (hx : ∀ x ∈ op.operands, ν' x = ν x) : PEff P T op ν' s := by
  cases h with
  | move x => rw [← hx x (by simp [Op.operands])]; exact .move x
  | assign x => rw [← hx x (by simp [Op.operands])]; exact .assign x
  | pick c a b t h =>
    have := PEff.pick (P := P) (T := T) (ν := ν') c a b t (by rw [hx c (by simp [Op.operands])]; exact h)
    rwa [hx a (by simp [Op.operands]), hx b (by simp [Op.operands])] at this
  | bin op t x y yt u v r h1 h2 h => exact .bin op t x y yt u v r (by rw [hx x (by simp [Op.operands])]; exact h1) (by rw [hx y (by simp [Op.operands])]; exact h2) h
  | eqA t x y yt Fs fs gs b hT h1 h2 he => exact .eqA t x y yt Fs fs gs b hT (by rw [hx x (by simp [Op.operands])]; exact h1) (by rw [hx y (by simp [Op.operands])]; exact h2) he
  | neA t x y yt Fs fs gs b hT h1 h2 he => exact .neA t x y yt Fs fs gs b hT (by rw [hx x (by simp [Op.operands])]; exact h1) (by rw [hx y (by simp [Op.operands])]; exact h2) he
  | un op t x u r h1 h => exact .un op t x u r (by rw [hx x (by simp [Op.operands])]; exact h1) h
  | field t x f Fs fs y hT hl h1 hf => exact .field t x f Fs fs y hT hl (by rw [hx x (by simp [Op.operands])]; exact h1) hf
  | fieldE t x f Fs fs y hT hl h1 hf => exact .fieldE t x f Fs fs y hT hl (by rw [hx x (by simp [Op.operands])]; exact h1) hf
  | indexD t x ix e ety xs kd j y hT hE h1 h2 h0 hy hw => exact .indexD t x ix e ety xs kd j y hT hE (by rw [hx x (by simp [Op.operands])]; exact h1) (by rw [hx ix (by simp [Op.operands])]; exact h2) h0 hy hw
  | indexS t x ix s kd j b hT h1 h2 h0 hb => exact .indexS t x ix s kd j b hT (by rw [hx x (by simp [Op.operands])]; exact h1) (by rw [hx ix (by simp [Op.operands])]; exact h2) h0 hb
  | sliceD t x lo hi e ety xs l h hT hE h1 hlo hhi hlh hh hw =>
    exact .sliceD t x lo hi e ety xs l h hT hE (by rw [hx x (by simp [Op.operands])]; exact h1) (boundOf_local (fun y hy => hx y (by subst hy; simp [Op.operands])) hlo)
      (boundOf_local (fun y hy => hx y (by subst hy; simp [Op.operands])) hhi) hlh hh hw
  | extract x i xs r h1 hi => exact .extract x i xs r (by rw [hx x (by simp [Op.operands])]; exact h1) hi
  | lenD t x e xs hT h1 => exact .lenD t x e xs hT (by rw [hx x (by simp [Op.operands, Call.operands])]; exact h1)
  | lenN t x e hT h1 => exact .lenN t x e hT (by rw [hx x (by simp [Op.operands, Call.operands])]; exact h1)
  | lenS t x s hT h1 => exact .lenS t x s hT (by rw [hx x (by simp [Op.operands, Call.operands])]; exact h1)
  | min x y t a b h1 h2 => exact .min x y t a b (by rw [hx x (by simp [Op.operands, Call.operands])]; exact h1) (by rw [hx y (by simp [Op.operands, Call.operands])]; exact h2)
  | max x y t a b h1 h2 => exact .max x y t a b (by rw [hx x (by simp [Op.operands, Call.operands])]; exact h1) (by rw [hx y (by simp [Op.operands, Call.operands])]; exact h2)
  | mkfn f => exact .mkfn f
  | conv src dst x k k' m sty hs hd h1 => exact .conv src dst x k k' m sty hs hd (by rw [hx x (by simp [Op.operands])]; exact h1)

/-- τ' shows the operands of o the same, and what they refer to. -/
structure Same (o : Oper) (τ τ' : Ab) : Prop where
  v : ∀ x ∈ o.op.operands, τ'.val x = τ.val x
  c : ∀ x ∈ o.op.operands, ∀ k, refS (τ.val x) k → τ'.c k = τ.c k
  u : ∀ d, o.dst = some d → τ.us d = false → τ'.us d = false

theorem ToD.locl {τ τ' : Ab} {s : S} {x : D} {ks : List Nat} (h : ToD τ s x ks) (hc : ∀ k, refS s k → τ'.c k = τ.c k) : ToD τ' s x ks := by
  cases h with
  | d => exact .d x
  | nil => exact .nil
  | av k m A hA => exact .av k m A (by rw [hc k rfl]; exact hA)
theorem ToCont.locl {τ τ' : Ab} {s : S} {x : List D} (h : ToCont τ s x) (hc : ∀ k, refS s k → τ'.c k = τ.c k) : ToCont τ' s x := by
  cases h with
  | d => exact .d x
  | nil => exact .nil
  | av k m A hA => exact .av k m A (by rw [hc k rfl]; exact hA)
theorem ToDs.locl {τ τ' : Ab} {ss : List S} {xs : List D} {ks : List Nat} (h : ToDs τ ss xs ks) (hc : ∀ s ∈ ss, ∀ k, refS s k → τ'.c k = τ.c k) : ToDs τ' ss xs ks := by
  induction h with
  | nil => exact .nil
  | cons h t ih => exact .cons (h.locl (hc _ List.mem_cons_self)) (ih fun s hs => hc s (List.mem_cons_of_mem _ hs))
theorem ToA.locl {τ τ' : Ab} {s : S} {x : A1} {ks : List Nat} (h : ToA τ s x ks) (hc : ∀ k, refS s k → τ'.c k = τ.c k) : ToA τ' s x ks := by
  cases h with
  | d h => exact .d (h.locl hc)
  | fn f => exact .fn f
theorem ToAs.locl {τ τ' : Ab} {ss : List S} {xs : List A1} {ks : List Nat} (h : ToAs τ ss xs ks) (hc : ∀ s ∈ ss, ∀ k, refS s k → τ'.c k = τ.c k) : ToAs τ' ss xs ks := by
  induction h with
  | nil => exact .nil
  | cons h t ih => exact .cons (h.locl (hc _ List.mem_cons_self)) (ih fun s hs => hc s (List.mem_cons_of_mem _ hs))

theorem TEff.locl {P : Program} {T : Tys} {o : Oper} {τ τ' : Ab} {e : Ef} (h : TEff P T o τ e) (hs : Same o τ τ') : TEff P T o τ' e := by
  obtain ⟨hv, hc, hu⟩ := hs
  cases h with
  | pure s h => exact .pure s (h.locl hv)
  | alloc t ty d ho hd hus hT hw => exact .alloc t ty d ho hd (hu d hd hus) hT hw
  | box t x y ks d ho hd hus hx hw =>
    have hm : x ∈ o.op.operands := by rw [ho]; simp [Op.operands]
    exact .box t x y ks d ho hd (hu d hd hus) (by rw [hv x hm]; exact hx.locl (hc x hm)) hw
  | build t parts Fs ds ks ho hT hx hcl hi =>
    have hm : ∀ p ∈ parts.toList, p.2 ∈ o.op.operands := fun p hp => by rw [ho]; simp only [Op.operands, List.mem_toArray, List.mem_map]; exact ⟨p, hp, rfl⟩
    refine .build t parts Fs ds ks ho hT ?_ hcl hi
    have e : (parts.toList.map fun p => τ'.val p.2) = parts.toList.map fun p => τ.val p.2 := List.map_congr_left fun p hp => hv p.2 (hm p hp)
    rw [e]
    exact hx.locl fun s hs k hk => by obtain ⟨p, hp, rfl⟩ := List.mem_map.1 hs; exact hc p.2 (hm p hp) k hk
  | buildSlice t len parts e ety ds ks d ho hd hus hT hE hx hcl hi hw hl =>
    have hm : ∀ p ∈ parts.toList, p.2 ∈ o.op.operands := fun p hp => by rw [ho]; simp only [Op.operands, List.mem_toArray, List.mem_map]; exact ⟨p, hp, rfl⟩
    refine .buildSlice t len parts e ety ds ks d ho hd (hu d hd hus) hT hE ?_ hcl hi hw hl
    have e : (parts.toList.map fun p => τ'.val p.2) = parts.toList.map fun p => τ.val p.2 := List.map_congr_left fun p hp => hv p.2 (hm p hp)
    rw [e]
    exact hx.locl fun s hs k hk => by obtain ⟨p, hp, rfl⟩ := List.mem_map.1 hs; exact hc p.2 (hm p hp) k hk
  | makeSlice t x y m k k' e ety d ho hd hus hT hE hx hy hm hw =>
    exact .makeSlice t x y m k k' e ety d ho hd (hu d hd hus) hT hE (by rw [hv x (by rw [ho]; simp [Op.operands])]; exact hx) (by rw [hv y (by rw [ho]; simp [Op.operands])]; exact hy) hm hw
  | loadE t x y ty ho hT hx hf => exact .loadE t x y ty ho hT (by rw [hv x (by rw [ho]; simp [Op.operands])]; exact hx) hf
  | loadA t x k i A y ty ho hT hx hA hy hf =>
    have hm : x ∈ o.op.operands := by rw [ho]; simp [Op.operands]
    exact .loadA t x k i A y ty ho hT (by rw [hv x hm]; exact hx) (by rw [hc x hm k (by rw [hx]; rfl)]; exact hA) hy hf
  | loadF t x k i f A fs y ty ho hT hx hA hi hy hf =>
    have hm : x ∈ o.op.operands := by rw [ho]; simp [Op.operands]
    exact .loadF t x k i f A fs y ty ho hT (by rw [hv x hm]; exact hx) (by rw [hc x hm k (by rw [hx]; rfl)]; exact hA) hi hy hf
  | fieldA t x f Fs k i A ho hT hl hx hA =>
    have hm : x ∈ o.op.operands := by rw [ho]; simp [Op.operands]
    exact .fieldA t x f Fs k i A ho hT hl (by rw [hv x hm]; exact hx) (by rw [hc x hm k (by rw [hx]; rfl)]; exact hA)
  | sliceA t x hi e ety k m h A ho hT hE hx hA hhi hh =>
    have hm : x ∈ o.op.operands := by rw [ho]; simp [Op.operands]
    exact .sliceA t x hi e ety k m h A ho hT hE (by rw [hv x hm]; exact hx) (by rw [hc x hm k (by rw [hx]; rfl)]; exact hA) (boundOf_local (fun y hy => hv y (by rw [ho]; subst hy; simp [Op.operands])) hhi) hh
  | indexA t x ix e ety k m j kd A ho hT hE hx hA hsz hi hj =>
    have hm : x ∈ o.op.operands := by rw [ho]; simp [Op.operands]
    exact .indexA t x ix e ety k m j kd A ho hT hE (by rw [hv x hm]; exact hx) (by rw [hc x hm k (by rw [hx]; rfl)]; exact hA) hsz (by rw [hv ix (by rw [ho]; simp [Op.operands])]; exact hi) hj
  | lenA t x e k m ho hT hx =>
    have hm : x ∈ o.op.operands := by rw [ho]; simp [Op.operands, Call.operands]
    exact .lenA t x e k m ho hT (by rw [hv x hm]; exact hx)
  | convS src dst e x bs ho hT hE hD hx =>
    have hm : x ∈ o.op.operands := by rw [ho]; simp [Op.operands]
    exact .convS src dst e x bs ho hT hE hD (by rw [hv x hm]; exact hx.locl (hc x hm))
  | nilA x k i A ho hx hA =>
    have hm : x ∈ o.op.operands := by rw [ho]; simp [Op.operands]
    exact .nilA x k i A ho (by rw [hv x hm]; exact hx) (by rw [hc x hm k (by rw [hx]; rfl)]; exact hA)
  | call fx args tys f as ks r s al ho hf hx hct hr =>
    have hm : ∀ p ∈ args.toList, p ∈ o.op.operands := fun p hp => by rw [ho]; simp only [Op.operands, Call.operands]; exact Array.mem_append.2 (.inr (Array.mem_def.2 hp))
    have hr' : ResE τ' o.dst r s al := by
      cases hr with
      | d x => exact .d x
      | unit => exact .unit
      | own A d h1 h2 => exact .own A d h1 (hu d h1 h2)
      | ptr A d h1 h2 => exact .ptr A d h1 (hu d h1 h2)
      | tupd x rest => exact .tupd x rest
      | tupo A rest d h1 h2 => exact .tupo A rest d h1 (hu d h1 h2)
    refine .call fx args tys f as ks r s al ho (by rw [hv fx (by rw [ho]; simp [Op.operands, Call.operands])]; exact hf) ?_ hct hr'
    have e : args.toList.map τ'.val = args.toList.map τ.val := List.map_congr_left fun p hp => hv p (hm p hp)
    rw [e]
    exact hx.locl fun s hs k hk => by obtain ⟨p, hp, rfl⟩ := List.mem_map.1 hs; exact hc p (hm p hp) k hk
  | callFlat fx args tys f as ks r s ho hf hx hct hr =>
    have hm : ∀ p ∈ args.toList, p ∈ o.op.operands := fun p hp => by rw [ho]; simp only [Op.operands, Call.operands]; exact Array.mem_append.2 (.inr (Array.mem_def.2 hp))
    refine .callFlat fx args tys f as ks r s ho (by rw [hv fx (by rw [ho]; simp [Op.operands, Call.operands])]; exact hf) ?_ hct hr
    have e : args.toList.map τ'.val = args.toList.map τ.val := List.map_congr_left fun p hp => hv p (hm p hp)
    rw [e]
    exact hx.locl fun s hs k hk => by obtain ⟨p, hp, rfl⟩ := List.mem_map.1 hs; exact hc p (hm p hp) k hk
  | callFr fx args tys f as ks r s p ho hf hx hct hr =>
    have hm : ∀ p ∈ args.toList, p ∈ o.op.operands := fun p hp => by rw [ho]; simp only [Op.operands, Call.operands]; exact Array.mem_append.2 (.inr (Array.mem_def.2 hp))
    refine .callFr fx args tys f as ks r s p ho (by rw [hv fx (by rw [ho]; simp [Op.operands, Call.operands])]; exact hf) ?_ hct (hr.usd hu)
    have e : args.toList.map τ'.val = args.toList.map τ.val := List.map_congr_left fun p hp => hv p (hm p hp)
    rw [e]
    exact hx.locl fun s hs k hk => by obtain ⟨p, hp, rfl⟩ := List.mem_map.1 hs; exact hc p (hm p hp) k hk

theorem ToLs.locl {τ τ' : Ab} {k : Nat} {A : Option Arr} {ss : List S} {xs : List A2} {ks : List Nat} (h : ToLs τ k A ss xs ks) (hc : ∀ s ∈ ss, ∀ j, refS s j → τ'.c j = τ.c j) : ToLs τ' k A ss xs ks := by
  induction h with
  | nil => exact .nil
  | cons h t ih => exact .cons (h.locl fun j hj => hc _ List.mem_cons_self j (by obtain ⟨m, e⟩ := hj; subst e; rfl)) (ih fun s hs => hc s (List.mem_cons_of_mem _ hs))
theorem ResE.usd {τ τ' : Ab} {dst : Option Nat} {r : Res} {s : S} {al : Option (Nat × Arr)} (h : ResE τ dst r s al) (hu : ∀ d, dst = some d → τ.us d = false → τ'.us d = false) : ResE τ' dst r s al := by
  cases h with
  | d x => exact .d x
  | unit => exact .unit
  | own A d h1 h2 => exact .own A d h1 (hu d h1 h2)
  | ptr A d h1 h2 => exact .ptr A d h1 (hu d h1 h2)
  | tupd x rest => exact .tupd x rest
  | tupo A rest d h1 h2 => exact .tupo A rest d h1 (hu d h1 h2)
theorem args_mem {o : Oper} {fx : Operand} {args : Array Operand} {tys : Array TypeId} (ho : o.op = .call { callee := .value fx, args, argTypes := tys }) : ∀ p ∈ args.toList, p ∈ o.op.operands := fun p hp => by
  rw [ho]; simp only [Op.operands, Call.operands]; exact Array.mem_append.2 (.inr (Array.mem_def.2 hp))
theorem WEff.locl {P : Program} {T : Tys} {R : List Nat} {o : Oper} {τ τ' : Ab} {e : Ef} (h : WEff P T R o τ e) (hv : ∀ x ∈ o.op.operands, τ'.val x = τ.val x) (hc : τ'.c = τ.c) (hs : τ'.sh = τ.sh) (hu : τ'.us = τ.us) : WEff P T R o τ' e := by
  have hss : ∀ ks : List Nat, (τ'.shares ks).sh = (τ.shares ks).sh := fun ks => by
    clear hv h hc hu
    induction ks generalizing τ τ' with
    | nil => exact hs
    | cons k ks ih => exact ih (τ := τ.share k) (τ' := τ'.share k) (by simp [Ab.share, hs])
  cases h with
  | storeA t x y k i A z ks ty ho hT hx hA hy hsh hi hz hw =>
    exact .storeA t x y k i A z ks ty ho hT (by rw [hv x (by rw [ho]; simp [Op.operands])]; exact hx) (by rw [hc]; exact hA) (by rw [hv y (by rw [ho]; simp [Op.operands])]; exact hy.of_c hc) (by rw [hss]; exact hsh) hi hz hw
  | storeF t x y k i f A fs z ks ty ho hT hx hA hy hsh hi hf hz hw =>
    exact .storeF t x y k i f A fs z ks ty ho hT (by rw [hv x (by rw [ho]; simp [Op.operands])]; exact hx) (by rw [hc]; exact hA) (by rw [hv y (by rw [ho]; simp [Op.operands])]; exact hy.of_c hc) (by rw [hss]; exact hsh) hi hf hz hw
  | appendA t x y e ety k m d A ys ho hd hus hds hT hE hx hA hsh he hsz hy hw hl =>
    refine .appendA t x y e ety k m d A ys ho hd (by rw [hu]; exact hus) (by rw [hs]; exact hds) hT hE (by rw [hv x (by rw [ho]; simp [Op.operands, Call.operands])]; exact hx) (by rw [hc]; exact hA) (by rw [hs]; exact hsh) he hsz ?_ hw hl
    rw [hv y (by rw [ho]; simp [Op.operands, Call.operands])]
    exact hy.locl fun k _ => by rw [hc]
  | appendN t x y e ety d ys ho hd hus hT hE hp hx hy hw hl =>
    refine .appendN t x y e ety d ys ho hd (by rw [hu]; exact hus) hT hE hp (by rw [hv x (by rw [ho]; simp [Op.operands, Call.operands])]; exact hx) ?_ hw hl
    rw [hv y (by rw [ho]; simp [Op.operands, Call.operands])]
    exact hy.locl fun k _ => by rw [hc]
  | lcall fx args tys f as ks k A r xs s al ho hfx hL hx hk hA hsh hct hr =>
    have hm := args_mem ho
    have e : args.toList.map τ'.val = args.toList.map τ.val := List.map_congr_left fun p hp => hv p (hm p hp)
    refine .lcall fx args tys f as ks k A r xs s al ho hfx hL (by rw [e]; exact hx.locl fun s _ j _ => by rw [hc]) ?_ (by rw [hc]; exact hA) (by rw [hss]; exact hsh) hct (hr.usd fun d _ h => by rw [hu]; exact h)
    obtain ⟨p, hp, h1⟩ := hk
    exact ⟨p, hp, by rw [hv p (hm p hp)]; exact h1⟩
end Go.DL

namespace Go.DL
open Go.RowKit

def cls (R : List Nat) : Op → Nat
  | .move _ | .assign _ | .pick .. | .binOp .. | .unOp .. | .field .. | .index .. | .extract .. | .makeFunc .. => 0
  | .call { callee := .builtin .min, .. } | .call { callee := .builtin .max, .. } => 0
  | .store .. | .call { callee := .builtin .append, .. } => 2
  | .call { callee := .value (.func f), .. } => if R.contains (100000 + f) then 2 else 1
  | _ => 1

def compat (R : List Nat) (a b : Op) : Bool := cls R a == 0 || cls R b == 0 || (cls R a == 1 && cls R b == 1)

section
variable {P : Program} {T : Tys} {R : List Nat}

theorem cls_call (R : List Nat) (fx : Operand) (args : Array Operand) (tys : Array TypeId) : cls R (.call { callee := .value fx, args, argTypes := tys }) ≠ 0 := by
  cases fx with
  | func f => simp only [cls]; split <;> decide
  | _ => simp [cls]
theorem TEff.plain {o : Oper} {τ : Ab} {e : Ef} (h : TEff P T o τ e) (hc : cls R o.op = 0) : ∃ s, e = { s } ∧ PEff P T o.op τ.val s := by
  cases h with
  | pure s h => exact ⟨s, rfl, h⟩
  | alloc _ _ _ ho => rw [ho] at hc; simp [cls] at hc
  | box _ _ _ _ _ ho => rw [ho] at hc; simp [cls] at hc
  | build _ _ _ _ _ ho => rw [ho] at hc; simp [cls] at hc
  | buildSlice _ _ _ _ _ _ _ _ ho => rw [ho] at hc; simp [cls] at hc
  | makeSlice _ _ _ _ _ _ _ _ _ ho => rw [ho] at hc; simp [cls] at hc
  | loadE _ _ _ _ ho => rw [ho] at hc; simp [cls] at hc
  | loadA _ _ _ _ _ _ _ ho => rw [ho] at hc; simp [cls] at hc
  | loadF _ _ _ _ _ _ _ _ _ ho => rw [ho] at hc; simp [cls] at hc
  | fieldA _ _ _ _ _ _ _ ho => rw [ho] at hc; simp [cls] at hc
  | sliceA _ _ _ _ _ _ _ _ _ ho => rw [ho] at hc; simp [cls] at hc
  | indexA _ _ _ _ _ _ _ _ _ _ ho => rw [ho] at hc; simp [cls] at hc
  | lenA _ _ _ _ _ ho => rw [ho] at hc; simp [cls] at hc
  | nilA _ _ _ _ ho => rw [ho] at hc; simp [cls] at hc
  | convS _ _ _ _ _ ho => rw [ho] at hc; simp [cls] at hc
  | call _ _ _ _ _ _ _ _ _ ho => rw [ho] at hc; exact absurd hc (cls_call R _ _ _)
  | callFlat _ _ _ _ _ _ _ _ ho => rw [ho] at hc; exact absurd hc (cls_call R _ _ _)
  | callFr _ _ _ _ _ _ _ _ _ ho => rw [ho] at hc; exact absurd hc (cls_call R _ _ _)

theorem WEff.cls2 {o : Oper} {τ : Ab} {e : Ef} (h : WEff P T R o τ e) : cls R o.op = 2 := by
  cases h with
  | storeA _ _ _ _ _ _ _ _ _ ho => rw [ho]; rfl
  | storeF _ _ _ _ _ _ _ _ _ _ _ ho => rw [ho]; rfl
  | appendA _ _ _ _ _ _ _ _ _ _ ho => rw [ho]; rfl
  | appendN _ _ _ _ _ _ _ ho => rw [ho]; rfl
  | lcall fx _ _ f _ _ _ _ _ _ _ _ ho hfx hL => rw [ho, hfx]; simp only [cls]; rw [if_pos hL]

theorem TEff.shape {o : Oper} {τ : Ab} {e : Ef} (h : TEff P T o τ e) : e.ki = none ∧ e.up = none ∧ ∀ k A, e.al = some (k, A) → o.dst = some k ∧ τ.us k = false := by
  cases h with
  | alloc t ty d ho hd hu => exact ⟨rfl, rfl, fun k A h => by cases h; exact ⟨hd, hu⟩⟩
  | box t x y ks d ho hd hu => exact ⟨rfl, rfl, fun k A h => by cases h; exact ⟨hd, hu⟩⟩
  | buildSlice t len parts e ety ds ks d ho hd hu => exact ⟨rfl, rfl, fun k A h => by cases h; exact ⟨hd, hu⟩⟩
  | makeSlice t x y m k k' e ety d ho hd hu => exact ⟨rfl, rfl, fun k A h => by cases h; exact ⟨hd, hu⟩⟩
  | call fx args tys f as ks r s al ho hf hx hc hr =>
    refine ⟨rfl, rfl, fun k A h => ?_⟩
    cases hr with
    | d x => cases h
    | unit => cases h
    | own A d h1 h2 => cases h; exact ⟨h1, h2⟩
    | ptr A d h1 h2 => cases h; exact ⟨h1, h2⟩
    | tupd x rest => cases h
    | tupo A rest d h1 h2 => cases h; exact ⟨h1, h2⟩
  | callFr fx args tys f as ks r s p ho hf hx hc hr => exact ⟨rfl, rfl, fun k A h => by cases h; exact hr.fst⟩
  | _ => exact ⟨rfl, rfl, fun k A h => by cases h⟩

theorem PEff.refs {op : Op} {ν : Operand → S} {s : S} (h : PEff P T op ν s) : ∀ k, refS s k → ∃ x ∈ op.operands, refS (ν x) k := by
  intro k hk
  cases h with
  | move x => exact ⟨x, by simp [Op.operands], hk⟩
  | assign x => exact ⟨x, by simp [Op.operands], hk⟩
  | pick c a b t h => cases t <;> simp only [if_true, Bool.false_eq_true, if_false] at hk
                      · exact ⟨b, by simp [Op.operands], hk⟩
                      · exact ⟨a, by simp [Op.operands], hk⟩
  | extract x i xs r hx hi =>
    refine ⟨x, by simp [Op.operands], ?_⟩
    rw [hx]
    refine ⟨r, List.mem_of_getElem? hi, ?_⟩
    cases r with
    | d y => exact hk
    | av j m => exact hk
  | _ => exact hk.elim

theorem TEff.refs {o : Oper} {τ : Ab} {e : Ef} (h : TEff P T o τ e) : ∀ k, refS e.s k → (∃ x ∈ o.op.operands, refS (τ.val x) k) ∨ ∃ A, e.al = some (k, A) := by
  intro k hk
  cases h with
  | pure s h => exact .inl (h.refs k hk)
  | alloc t ty d => exact .inr ⟨_, by rw [show k = d from hk]⟩
  | box t x y ks d => exact .inr ⟨_, by rw [show k = d from hk]⟩
  | buildSlice t len parts e ety ds ks d => exact .inr ⟨_, by rw [show k = d from hk]⟩
  | makeSlice t x y m k0 k' e ety d => exact .inr ⟨_, by rw [show k = d from hk]⟩
  | fieldA t x f Fs k0 i A ho hT hl hx hA => exact .inl ⟨x, by rw [ho]; simp [Op.operands], by rw [hx]; exact hk⟩
  | sliceA t x hi e ety k0 m h A ho hT hE hx hA hhi hh => exact .inl ⟨x, by rw [ho]; simp [Op.operands], by rw [hx]; exact hk⟩
  | indexA t x ix e ety k0 m j kd A ho hT hE hx hA hsz hi hj => exact .inl ⟨x, by rw [ho]; simp [Op.operands], by rw [hx]; exact hk⟩
  | nilA x k0 i A ho hx hA => exact .inl ⟨x, by rw [ho]; simp [Op.operands], by rw [hx]; exact hk⟩
  | call fx args tys f as ks r s al ho hf hx hc hr =>
    cases hr with
    | d x => exact hk.elim
    | unit => exact hk.elim
    | own A d h1 h2 => exact .inr ⟨_, by rw [show k = d from hk]⟩
    | ptr A d h1 h2 => exact .inr ⟨_, by rw [show k = d from hk]⟩
    | tupd x rest =>
      obtain ⟨t, ht, hr⟩ := hk
      rcases List.mem_cons.1 ht with rfl | ht
      · exact hr.elim
      · obtain ⟨y, _, rfl⟩ := List.mem_map.1 ht; exact hr.elim
    | tupo A rest d h1 h2 =>
      obtain ⟨t, ht, hr⟩ := hk
      rcases List.mem_cons.1 ht with rfl | ht
      · exact .inr ⟨_, by rw [show k = d from hr]⟩
      · obtain ⟨y, _, rfl⟩ := List.mem_map.1 ht; exact hr.elim
  | callFlat fx args tys f as ks r s ho hf hx hc hr =>
    cases hr with
    | d x => exact hk.elim
    | tup v rest =>
      obtain ⟨t, ht, hr⟩ := hk
      rcases List.mem_cons.1 ht with rfl | ht
      · exact hr.elim
      · obtain ⟨y, _, rfl⟩ := List.mem_map.1 ht; exact hr.elim
  | callFr fx args tys f as ks r s p ho hf hx hc hr =>
    refine .inr ⟨p.2, ?_⟩
    have : k = p.1 := by
      cases hr with
      | one A d h hu => exact hk
      | tup A rest d h hu =>
        obtain ⟨t, ht, h⟩ := hk
        rcases List.mem_cons.1 ht with rfl | ht
        · exact h
        · obtain ⟨u, _, rfl⟩ := List.mem_map.1 ht; exact h.elim
    subst this; rfl
  | _ => exact hk.elim

theorem WEff.refs {o : Oper} {τ : Ab} {e : Ef} (h : WEff P T R o τ e) : ∀ k, refS e.s k → ∃ A, e.al = some (k, A) := by
  intro k hk
  cases h with
  | storeA => exact hk.elim
  | storeF => exact hk.elim
  | appendA t x y e ety k0 m d => exact ⟨_, by rw [show k = d from hk]⟩
  | appendN t x y e ety d => exact ⟨_, by rw [show k = d from hk]⟩
  | lcall fx args tys f as ks k0 A r xs s al ho hfx hL hx hk0 hA hsh hc hr =>
    cases hr with
    | d x => exact hk.elim
    | unit => exact hk.elim
    | own A d h1 h2 => exact ⟨_, by rw [show k = d from hk]⟩
    | ptr A d h1 h2 => exact ⟨_, by rw [show k = d from hk]⟩
    | tupd x rest =>
      obtain ⟨t, ht, hr⟩ := hk
      rcases List.mem_cons.1 ht with rfl | ht
      · exact hr.elim
      · obtain ⟨y, _, rfl⟩ := List.mem_map.1 ht; exact hr.elim
    | tupo A rest d h1 h2 =>
      obtain ⟨t, ht, hr⟩ := hk
      rcases List.mem_cons.1 ht with rfl | ht
      · exact ⟨_, by rw [show k = d from hr]⟩
      · obtain ⟨y, _, rfl⟩ := List.mem_map.1 ht; exact hr.elim

/-! ### The parts of a state behind an effect -/
theorem Ab.ext' {a b : Ab} (h1 : a.s = b.s) (h2 : a.c = b.c) (h3 : a.sh = b.sh) (h4 : a.us = b.us) : a = b := by
  cases a; cases b; simp_all

theorem shares_sh (τ : Ab) (ks : List Nat) (k : Nat) : (τ.shares ks).sh k = (τ.sh k || ks.contains k) := by
  unfold Ab.shares
  induction ks generalizing τ with
  | nil => simp
  | cons j ks ih =>
    rw [List.foldl_cons, ih]
    by_cases h : k = j
    · subst h; simp [Ab.share]
    · simp [Ab.share, h]

theorem put_s (τ : Ab) (dst : Option Nat) (s : S) (t : Nat) : (τ.put dst s).s t = if dst = some t then s else τ.s t := by
  cases dst with
  | none => simp [Ab.put]
  | some d =>
    by_cases h : t = d
    · subst h; simp [Ab.put]
    · simp [Ab.put, h, Ne.symm h]
theorem put_c (τ : Ab) (dst : Option Nat) (s : S) : (τ.put dst s).c = τ.c := by cases dst <;> rfl
theorem put_sh (τ : Ab) (dst : Option Nat) (s : S) : (τ.put dst s).sh = τ.sh := by cases dst <;> rfl
theorem put_us (τ : Ab) (dst : Option Nat) (s : S) : (τ.put dst s).us = τ.us := by cases dst <;> rfl

theorem eff_s (τ : Ab) (dst : Option Nat) (e : Ef) (t : Nat) : (τ.eff dst e).s t = if dst = some t then e.s else τ.s t := by
  unfold Ab.eff
  rw [put_s]
  congr 1
  have h1 : ∀ (a : Ab) (o : Option (Nat × Arr)), (a.alO o).s = a.s := fun a o => by rcases o with _ | ⟨k, A⟩ <;> rfl
  have h2 : ∀ (a : Ab) (o : Option (Nat × Arr)), (a.upO o).s = a.s := fun a o => by rcases o with _ | ⟨k, A⟩ <;> rfl
  have h3 : ∀ (a : Ab) (o : Option Nat), (a.kiO o).s = a.s := fun a o => by rcases o with _ | k <;> rfl
  rw [h1, h2, h3, (shares_c τ e.sh).2.2]

theorem eff_us (τ : Ab) (dst : Option Nat) (e : Ef) (k : Nat) : (τ.eff dst e).us k = match e.al with | some (j, _) => (if k = j then true else τ.us k) | none => τ.us k := by
  unfold Ab.eff
  rw [put_us]
  have h2 : ∀ (a : Ab) (o : Option (Nat × Arr)), (a.upO o).us = a.us := fun a o => by rcases o with _ | ⟨k, A⟩ <;> rfl
  have h3 : ∀ (a : Ab) (o : Option Nat), (a.kiO o).us = a.us := fun a o => by rcases o with _ | k <;> rfl
  rcases h : e.al with _ | ⟨j, A⟩
  · simp only [Ab.alO]
    rw [h2, h3, (shares_c τ e.sh).2.1]
  · simp only [Ab.alO, Ab.al]
    rw [h2, h3, (shares_c τ e.sh).2.1]

theorem eff_sh' (τ : Ab) (dst : Option Nat) (e : Ef) (k : Nat) : (τ.eff dst e).sh k = (τ.sh k || e.sh.contains k) := by
  unfold Ab.eff
  rw [put_sh]
  have h1 : ∀ (a : Ab) (o : Option (Nat × Arr)), (a.alO o).sh = a.sh := fun a o => by rcases o with _ | ⟨k, A⟩ <;> rfl
  have h2 : ∀ (a : Ab) (o : Option (Nat × Arr)), (a.upO o).sh = a.sh := fun a o => by rcases o with _ | ⟨k, A⟩ <;> rfl
  have h3 : ∀ (a : Ab) (o : Option Nat), (a.kiO o).sh = a.sh := fun a o => by rcases o with _ | k <;> rfl
  rw [h1, h2, h3, shares_sh]

theorem eff_c (τ : Ab) (dst : Option Nat) (e : Ef) (hk : e.ki = none) (hu : e.up = none) (k : Nat) : (τ.eff dst e).c k = match e.al with | some (j, A) => (if k = j then some A else τ.c k) | none => τ.c k := by
  unfold Ab.eff
  rw [put_c, hk, hu]
  rcases h : e.al with _ | ⟨j, A⟩
  · simp only [Ab.alO, Ab.kiO, Ab.upO]
    rw [(shares_c τ e.sh).1]
  · simp only [Ab.alO, Ab.kiO, Ab.upO, Ab.al]
    rw [(shares_c τ e.sh).1]

theorem eff_put (τ : Ab) (di dj : Option Nat) (s : S) (e : Ef) (h : ∀ d, di = some d → dj ≠ some d) : (τ.put di s).eff dj e = (τ.eff dj e).put di s := by
  cases di with
  | none => rfl
  | some d =>
    have hne : dj ≠ some d := h d rfl
    refine Ab.ext' (funext fun t => ?_) (funext fun k => ?_) (funext fun k => ?_) (funext fun k => ?_)
    · rw [eff_s, put_s, put_s, eff_s]
      by_cases ht : d = t
      · subst ht
        simp [hne]
      · simp [ht]
    · rw [put_c]
      have hsh : ∀ ks, ((τ.put (some d) s).shares ks) = (τ.shares ks).put (some d) s := fun ks => by
        unfold Ab.shares
        induction ks generalizing τ with
        | nil => rfl
        | cons j ks ih => exact ih (τ.share j)
      unfold Ab.eff
      rw [put_c, put_c, hsh]
      rcases e.ki with _ | _ <;> rcases e.up with _ | ⟨_, _⟩ <;> rcases e.al with _ | ⟨_, _⟩ <;> rfl
    · rw [eff_sh', put_sh, put_sh, eff_sh']
    · rw [eff_us, put_us, put_us, eff_us]

/-! ### A step of a region -/
def Wanted (ops : Array Oper) (τ : Ab) (o : Oper) : Prop :=
  o.guard = none ∨ ∃ j want t, o.guard = some (j, want) ∧ (ops[j]?).bind (·.dst) = some t ∧ τ.s t = .d (.sc (.bool want))

inductive GEff (P : Program) (T : Tys) (R : List Nat) (ops : Array Oper) (o : Oper) (τ : Ab) : Ef → Prop
  | skip (j t : Nat) (want : Bool) (hg : o.guard = some (j, want)) (ht : (ops[j]?).bind (·.dst) = some t) (hs : τ.s t = .un ∨ τ.s t = .d (.sc (.bool (!want)))) : GEff P T R ops o τ { s := .un }
  | tame (e : Ef) (hg : Wanted ops τ o) (h : TEff P T o τ e) : GEff P T R ops o τ e
  | wild (e : Ef) (hg : Wanted ops τ o) (h : WEff P T R o τ e) : GEff P T R ops o τ e

variable {ops : Array Oper}

theorem mem_looks {o : Oper} {t : Nat} (h : Operand.tmp t ∈ o.op.operands) : t ∈ o.looksAt ops :=
  List.mem_append_left _ (List.mem_filterMap.2 ⟨.tmp t, Array.mem_def.1 h, rfl⟩)
theorem guard_looks {o : Oper} {j t : Nat} {want : Bool} (hg : o.guard = some (j, want)) (ht : (ops[j]?).bind (·.dst) = some t) : t ∈ o.looksAt ops := by
  simp [Oper.looksAt, hg, ht]

theorem val_same {o : Oper} {τ τ' : Ab} {dst : Option Nat} (hs : ∀ t, dst ≠ some t → τ'.s t = τ.s t) (h : ∀ d, dst = some d → d ∉ o.looksAt ops) : ∀ x ∈ o.op.operands, τ'.val x = τ.val x := by
  intro x hx
  cases x with
  | tmp t => exact hs t (fun e => h t e (mem_looks hx))
  | _ => rfl

theorem Wanted.same {o : Oper} {τ τ' : Ab} {dst : Option Nat} (hs : ∀ t, dst ≠ some t → τ'.s t = τ.s t) (h : ∀ d, dst = some d → d ∉ o.looksAt ops) (hw : Wanted ops τ o) : Wanted ops τ' o := by
  rcases hw with hw | ⟨j, want, t, h1, h2, h3⟩
  · exact .inl hw
  · exact .inr ⟨j, want, t, h1, h2, by rw [hs t (fun e => h t e (guard_looks h1 h2))]; exact h3⟩

theorem constS_ref (v : Value) (k : Nat) : ¬ refS (constS v) k := by
  unfold constS
  split <;> exact fun h => h

theorem val_ref {τ : Ab} (hwf : WF τ) {x : Operand} {k : Nat} (h : refS (τ.val x) k) : τ.us k = true := by
  cases x with
  | tmp t => exact hwf t k h
  | const v => exact (constS_ref v k h).elim
  | global g => exact h.elim
  | func f => exact h.elim

theorem eff_wf {o : Oper} {τ : Ab} {e : Ef} (hwf : WF τ) (h : GEff P T R ops o τ e) : WF (τ.eff o.dst e) := by
  have key : ∀ k, refS e.s k → (τ.eff o.dst e).us k = true := by
    intro k hk
    have hold : τ.us k = true → (τ.eff o.dst e).us k = true := fun hu => by
      rw [eff_us]; split <;> simp_all
    have hnew : (∃ A, e.al = some (k, A)) → (τ.eff o.dst e).us k = true := fun ⟨A, hA⟩ => by rw [eff_us, hA]; simp
    cases h with
    | skip => exact hk.elim
    | tame e hg h =>
      rcases h.refs k hk with ⟨x, _, hx⟩ | hA
      · exact hold (val_ref hwf hx)
      · exact hnew hA
    | wild e hg h => exact hnew (h.refs k hk)
  intro t k hk
  rw [eff_s] at hk
  split at hk
  · exact key k hk
  · rw [eff_us]
    have := hwf t k hk
    split <;> simp_all

theorem plain_back {oj : Oper} {τ : Ab} {di : Option Nat} {s : S} {ej : Ef} (h1 : ∀ d, di = some d → d ∉ oj.looksAt ops) (hj : GEff P T R ops oj (τ.put di s) ej) : GEff P T R ops oj τ ej := by
  have hs : ∀ t, di ≠ some t → τ.s t = (τ.put di s).s t := fun t ht => by rw [put_s, if_neg ht]
  cases hj with
  | skip j t want hg ht hst => exact .skip j t want hg ht (by rw [hs t (fun e => h1 t e (guard_looks hg ht))]; exact hst)
  | tame e hg h => exact .tame _ (hg.same hs h1) (h.locl ⟨val_same hs h1, fun x _ k _ => by rw [put_c], fun d _ hu => by rw [put_us] at hu; exact hu⟩)
  | wild e hg h => exact .wild _ (hg.same hs h1) (h.locl (val_same hs h1) (by rw [put_c]) (by rw [put_sh]) (by rw [put_us]))

theorem plain_on {oi : Oper} {τ : Ab} {dj : Option Nat} {ej : Ef} {s : S} (h3 : ∀ d, dj = some d → d ∉ oi.looksAt ops) (hi : GEff P T R ops oi τ { s }) (hp : cls R oi.op = 0 ∨ ∃ j want t, oi.guard = some (j, want) ∧ (ops[j]?).bind (·.dst) = some t ∧ (τ.s t = .un ∨ τ.s t = .d (.sc (.bool (!want)))) ∧ s = .un) :
    GEff P T R ops oi (τ.eff dj ej) { s } := by
  have hs : ∀ t, dj ≠ some t → (τ.eff dj ej).s t = τ.s t := fun t ht => by rw [eff_s, if_neg ht]
  rcases hp with hc | ⟨j, want, t, hg, ht, hst, rfl⟩
  · cases hi with
    | skip j t want hg ht hst => exact .skip j t want hg ht (by rw [hs t (fun e => h3 t e (guard_looks hg ht))]; exact hst)
    | tame e hg h =>
      obtain ⟨s', he, hp⟩ := h.plain hc
      have e2 : s' = s := by injection he with h; exact h.symm
      subst e2
      exact .tame _ (hg.same hs h3) (.pure _ (hp.locl (val_same hs h3)))
    | wild e hg h => rw [h.cls2] at hc; cases hc
  · exact .skip j t want hg ht (by rw [hs t (fun e => h3 t e (guard_looks hg ht))]; exact hst)

theorem commute {oi oj : Oper} {τ : Ab} {ei ej : Ef} (hap : oi.apart ops oj = true) (hcp : compat R oi.op oj.op = true) (hwf : WF τ) (hi : GEff P T R ops oi τ ei) (hj : GEff P T R ops oj (τ.eff oi.dst ei) ej) :
    GEff P T R ops oj τ ej ∧ GEff P T R ops oi (τ.eff oj.dst ej) ei ∧ (τ.eff oi.dst ei).eff oj.dst ej = (τ.eff oj.dst ej).eff oi.dst ei := by
  obtain ⟨h1, h2, h3⟩ := Oper.apart_spec hap
  have h2' : ∀ d, oj.dst = some d → oi.dst ≠ some d := fun d hd he => h2 d he hd
  have plainI : ∀ s, ei = { s } → (cls R oi.op = 0 ∨ ∃ j want t, oi.guard = some (j, want) ∧ (ops[j]?).bind (·.dst) = some t ∧ (τ.s t = .un ∨ τ.s t = .d (.sc (.bool (!want)))) ∧ s = .un) →
      GEff P T R ops oj τ ej ∧ GEff P T R ops oi (τ.eff oj.dst ej) ei ∧ (τ.eff oi.dst ei).eff oj.dst ej = (τ.eff oj.dst ej).eff oi.dst ei := by
    rintro s rfl hp
    exact ⟨plain_back h1 hj, plain_on h3 hi hp, eff_put τ oi.dst oj.dst s ej h2⟩
  cases hi with
  | skip j t want hg ht hst => exact plainI .un rfl (.inr ⟨j, want, t, hg, ht, hst, rfl⟩)
  | tame _ hg hti =>
    have hsi : ∀ t, oi.dst ≠ some t → τ.s t = (τ.eff oi.dst ei).s t := fun t ht => by rw [eff_s, if_neg ht]
    cases hj with
    | skip j t want hgj ht hst =>
      refine ⟨.skip j t want hgj ht (by rw [hsi t (fun e => h1 t e (guard_looks hgj ht))]; exact hst), ?_, ?_⟩
      · have hs : ∀ t, oj.dst ≠ some t → (τ.eff oj.dst { s := .un }).s t = τ.s t := fun t ht => by rw [eff_s, if_neg ht]
        exact .tame _ (hg.same hs h3) (hti.locl ⟨val_same hs h3, fun x _ k _ => by rw [eff_c _ _ _ rfl rfl], fun d _ hu => by rw [eff_us]; exact hu⟩)
      · exact (eff_put τ oj.dst oi.dst .un ei h2').symm
    | tame _ hgj htj =>
      obtain ⟨ki, ui, ali⟩ := hti.shape
      obtain ⟨kj, uj, alj⟩ := htj.shape
      have back : TEff P T oj τ ej := htj.locl ⟨val_same hsi h1, fun x hx k hk => by
          have hk' : τ.us k = true := val_ref hwf (by rw [val_same hsi h1 x hx]; exact hk)
          rw [eff_c _ _ _ ki ui]
          rcases hal : ei.al with _ | ⟨d, A⟩
          · rfl
          · have := (ali d A hal).2
            have hne : k ≠ d := fun e => by rw [e, this] at hk'; cases hk'
            simp [hne], fun d hd hu => by
          rw [eff_us] at hu
          rcases hal : ei.al with _ | ⟨d', A⟩ <;> rw [hal] at hu
          · exact hu
          · simp only at hu
            split at hu
            · cases hu
            · exact hu⟩
      have hs : ∀ t, oj.dst ≠ some t → (τ.eff oj.dst ej).s t = τ.s t := fun t ht => by rw [eff_s, if_neg ht]
      have alj' := back.shape.2.2
      have on : TEff P T oi (τ.eff oj.dst ej) ei := hti.locl ⟨val_same hs h3, fun x hx k hk => by
          have hk' : τ.us k = true := val_ref hwf hk
          rw [eff_c _ _ _ kj uj]
          rcases hal : ej.al with _ | ⟨d, A⟩
          · rfl
          · have := (alj' d A hal).2
            have hne : k ≠ d := fun e => by rw [e, this] at hk'; cases hk'
            simp [hne], fun d hd hu => by
          rw [eff_us]
          rcases hal : ej.al with _ | ⟨d', A⟩
          · exact hu
          · have hd' := (alj' d' A hal).1
            have hne : d ≠ d' := fun e => h2 d hd (by rw [e]; exact hd')
            simp [hne, hu]⟩
      refine ⟨.tame _ (hgj.same hsi h1) back, .tame _ (hg.same hs h3) on, Ab.ext' (funext fun t => ?_) (funext fun k => ?_) (funext fun k => ?_) (funext fun k => ?_)⟩
      · rw [eff_s, eff_s, eff_s, eff_s]
        by_cases c1 : oi.dst = some t
        · have := h2 t c1
          simp [c1, this]
        · simp [c1]
      · rw [eff_c _ _ _ kj uj, eff_c _ _ _ ki ui, eff_c _ _ _ ki ui, eff_c _ _ _ kj uj]
        rcases hal : ei.al with _ | ⟨d, A⟩ <;> rcases hbl : ej.al with _ | ⟨d', B⟩ <;> simp only
        have hd := (ali d A hal).1
        have hd' := (alj' d' B hbl).1
        have hne : d ≠ d' := fun e => h2 d hd (by rw [e]; exact hd')
        by_cases c1 : k = d
        · subst c1; simp [hne]
        · simp [c1]
      · rw [eff_sh', eff_sh', eff_sh', eff_sh', Bool.or_assoc, Bool.or_assoc, Bool.or_comm (ei.sh.contains k)]
      · rw [eff_us, eff_us, eff_us, eff_us]
        rcases hal : ei.al with _ | ⟨d, A⟩ <;> rcases hbl : ej.al with _ | ⟨d', B⟩ <;> simp only
        by_cases c1 : k = d <;> by_cases c2 : k = d' <;> simp [c1, c2]
    | wild _ hgj hwj =>
      have hc : cls R oi.op = 0 := by
        have := hwj.cls2
        simp only [compat, this, Bool.or_eq_true, Bool.and_eq_true, beq_iff_eq] at hcp
        omega
      obtain ⟨s, he, _⟩ := hti.plain hc
      exact plainI s he (.inl hc)
  | wild _ hg hwi =>
    have hc : cls R oj.op = 0 := by
      have := hwi.cls2
      simp only [compat, this, Bool.or_eq_true, Bool.and_eq_true, beq_iff_eq] at hcp
      omega
    have hsi : ∀ t, oi.dst ≠ some t → τ.s t = (τ.eff oi.dst ei).s t := fun t ht => by rw [eff_s, if_neg ht]
    have done : ∀ s, ej = { s } → GEff P T R ops oj τ ej → GEff P T R ops oj τ ej ∧ GEff P T R ops oi (τ.eff oj.dst ej) ei ∧ (τ.eff oi.dst ei).eff oj.dst ej = (τ.eff oj.dst ej).eff oi.dst ei := by
      rintro s rfl hb
      refine ⟨hb, ?_, (eff_put τ oj.dst oi.dst s ei h2').symm⟩
      have hs : ∀ t, oj.dst ≠ some t → (τ.put oj.dst s).s t = τ.s t := fun t ht => by rw [put_s, if_neg ht]
      exact .wild _ (hg.same hs h3) (hwi.locl (val_same hs h3) (put_c _ _ _) (put_sh _ _ _) (put_us _ _ _))
    cases hj with
    | skip j t want hgj ht hst => exact done .un rfl (.skip j t want hgj ht (by rw [hsi t (fun e => h1 t e (guard_looks hgj ht))]; exact hst))
    | tame _ hgj htj =>
      obtain ⟨s, he, hp⟩ := htj.plain hc
      subst he
      exact done s rfl (.tame _ (hgj.same hsi h1) (.pure _ (hp.locl (val_same hsi h1))))
    | wild _ hgj hwj => rw [hwj.cls2] at hc; cases hc
/-! ### Operations that touch different arrays change places -/
def Refs (o : Oper) (τ : Ab) (k : Nat) : Prop := ∃ x ∈ o.op.operands, refS (τ.val x) k
theorem ToD.keys {τ : Ab} {s : S} {x : D} {ks : List Nat} (h : ToD τ s x ks) : ∀ k ∈ ks, refS s k := by
  cases h with
  | d => simp
  | nil => simp
  | av k m A hA => intro j hj; simp at hj; subst hj; rfl
theorem ToDs.keys {τ : Ab} {ss : List S} {xs : List D} {ks : List Nat} (h : ToDs τ ss xs ks) : ∀ k ∈ ks, ∃ s ∈ ss, refS s k := by
  induction h with
  | nil => simp
  | cons h t ih =>
    intro k hk
    rcases List.mem_append.1 hk with h1 | h1
    · exact ⟨_, List.mem_cons_self, h.keys k h1⟩
    · obtain ⟨s, hs, h2⟩ := ih k h1; exact ⟨s, List.mem_cons_of_mem _ hs, h2⟩
theorem ToA.keys {τ : Ab} {s : S} {x : A1} {ks : List Nat} (h : ToA τ s x ks) : ∀ k ∈ ks, refS s k := by
  cases h with
  | d h => exact h.keys
  | fn f => simp
theorem ToAs.keys {τ : Ab} {ss : List S} {xs : List A1} {ks : List Nat} (h : ToAs τ ss xs ks) : ∀ k ∈ ks, ∃ s ∈ ss, refS s k := by
  induction h with
  | nil => simp
  | cons h t ih =>
    intro k hk
    rcases List.mem_append.1 hk with h1 | h1
    · exact ⟨_, List.mem_cons_self, h.keys k h1⟩
    · obtain ⟨s, hs, h2⟩ := ih k h1; exact ⟨s, List.mem_cons_of_mem _ hs, h2⟩
theorem TEff.shk {o : Oper} {τ : Ab} {e : Ef} (h : TEff P T o τ e) : ∀ k ∈ e.sh, Refs o τ k := by
  cases h with
  | box t x y ks d ho hd hu hx hw => exact fun k hk => ⟨x, by rw [ho]; simp [Op.operands], hx.keys k hk⟩
  | build t parts Fs ds ks ho hT hx hc hi =>
    intro k hk
    obtain ⟨s, hs, h1⟩ := hx.keys k hk
    obtain ⟨p, hp, rfl⟩ := List.mem_map.1 hs
    exact ⟨p.2, by rw [ho]; simp [Op.operands]; exact ⟨p.1, Array.mem_def.2 hp⟩, h1⟩
  | buildSlice t len parts e ety ds ks d ho hd hu hT hE hx hc hi hw hl =>
    intro k hk
    obtain ⟨s, hs, h1⟩ := hx.keys k hk
    obtain ⟨p, hp, rfl⟩ := List.mem_map.1 hs
    exact ⟨p.2, by rw [ho]; simp [Op.operands]; exact ⟨p.1, Array.mem_def.2 hp⟩, h1⟩
  | call fx args tys f as ks r s al ho hf hx hc hr =>
    intro k hk
    obtain ⟨s, hs, h1⟩ := hx.keys k hk
    obtain ⟨p, hp, rfl⟩ := List.mem_map.1 hs
    exact ⟨p, by rw [ho]; simp [Op.operands, Call.operands]; exact .inr (Array.mem_def.2 hp), h1⟩
  | _ => intro k hk; simp at hk
theorem ToLs.keys {τ : Ab} {k : Nat} {A : Option Arr} {ss : List S} {xs : List A2} {ks : List Nat} (h : ToLs τ k A ss xs ks) : ∀ j ∈ ks, ∃ s ∈ ss, refS s j := by
  induction h with
  | nil => simp
  | cons h t ih =>
    intro j hj
    rcases List.mem_append.1 hj with h1 | h1
    · cases h with
      | d h => exact ⟨_, List.mem_cons_self, h.keys j h1⟩
      | fn f => simp at h1
      | lv m A0 hA h => simp at h1
      | lp A0 hA => simp at h1
    · obtain ⟨s, hs, h2⟩ := ih j h1; exact ⟨s, List.mem_cons_of_mem _ hs, h2⟩
theorem ResE.fresh {τ : Ab} {dst : Option Nat} {r : Res} {s : S} {al : Option (Nat × Arr)} (h : ResE τ dst r s al) : ∀ k A, al = some (k, A) → dst = some k ∧ τ.us k = false := by
  intro k B e
  cases h with
  | d x => cases e
  | unit => cases e
  | own A d h1 h2 => cases e; exact ⟨h1, h2⟩
  | ptr A d h1 h2 => cases e; exact ⟨h1, h2⟩
  | tupd x rest => cases e
  | tupo A rest d h1 h2 => cases e; exact ⟨h1, h2⟩
theorem lent_ref {o : Oper} {τ : Ab} {fx : Operand} {args : Array Operand} {tys : Array TypeId} {k m : Nat} (ho : o.op = .call { callee := .value fx, args, argTypes := tys }) (hk : ∃ p ∈ args.toList, τ.val p = .av k m ∨ τ.val p = .ae k 0) : Refs o τ k := by
  obtain ⟨p, hp, h⟩ := hk
  refine ⟨p, args_mem ho p hp, ?_⟩
  rcases h with h | h <;> rw [h] <;> rfl
theorem WEff.touch {o : Oper} {τ : Ab} {e : Ef} (h : WEff P T R o τ e) : (∀ k, e.ki = some k → Refs o τ k) ∧ (∀ k A, e.up = some (k, A) → Refs o τ k) ∧ (∀ k ∈ e.sh, Refs o τ k) ∧ ∀ k A, e.al = some (k, A) → o.dst = some k ∧ τ.us k = false := by
  cases h with
  | storeA t x y k i A z ks ty ho hT hx hA hy hsh hi hz hw =>
    refine ⟨fun k h => (by cases h), fun j B h => ?_, fun j hj => ⟨y, by rw [ho]; simp [Op.operands], hy.keys j hj⟩, fun k A h => (by cases h)⟩
    cases h
    exact ⟨x, by rw [ho]; simp [Op.operands], by rw [hx]; rfl⟩
  | storeF t x y k i f A fs z ks ty ho hT hx hA hy hsh hi hf hz hw =>
    refine ⟨fun k h => (by cases h), fun j B h => ?_, fun j hj => ⟨y, by rw [ho]; simp [Op.operands], hy.keys j hj⟩, fun k A h => (by cases h)⟩
    cases h
    exact ⟨x, by rw [ho]; simp [Op.operands], by rw [hx]; rfl⟩
  | appendA t x y e ety k m d A ys ho hd hus hds hT hE hx hA hsh he hsz hy hw hl =>
    refine ⟨fun j h => ?_, fun j B h => (by cases h), fun j hj => (by simp at hj), fun j B h => ?_⟩
    · cases h; exact ⟨x, by rw [ho]; simp [Op.operands, Call.operands], by rw [hx]; rfl⟩
    · cases h; exact ⟨hd, hus⟩
  | appendN t x y e ety d ys ho hd hus hT hE hp hx hy hw hl =>
    refine ⟨fun j h => (by cases h), fun j B h => (by cases h), fun j hj => (by simp at hj), fun j B h => ?_⟩
    cases h; exact ⟨hd, hus⟩
  | lcall fx args tys f as ks k A r xs s al ho hfx hL hx hk hA hsh hc hr =>
    refine ⟨fun j h => (by cases h), fun j B h => ?_, fun j hj => ?_, hr.fresh⟩
    · cases h; exact lent_ref ho hk
    · obtain ⟨s0, hs0, h1⟩ := hx.keys j hj
      obtain ⟨p, hp, rfl⟩ := List.mem_map.1 hs0
      exact ⟨p, args_mem ho p hp, h1⟩
theorem GEff.touch {o : Oper} {τ : Ab} {e : Ef} (h : GEff P T R ops o τ e) : (∀ k, e.ki = some k → Refs o τ k) ∧ (∀ k A, e.up = some (k, A) → Refs o τ k) ∧ (∀ k ∈ e.sh, Refs o τ k) ∧ ∀ k A, e.al = some (k, A) → o.dst = some k ∧ τ.us k = false := by
  cases h with
  | skip => exact ⟨fun k h => (by cases h), fun k A h => (by cases h), fun k h => (by simp at h), fun k A h => (by cases h)⟩
  | tame _ _ h =>
    obtain ⟨h1, h2, h3⟩ := h.shape
    exact ⟨fun k h => (by rw [h1] at h; cases h), fun k A h => (by rw [h2] at h; cases h), h.shk, h3⟩
  | wild _ _ h => exact h.touch
theorem WEff.locl2 {o : Oper} {τ τ' : Ab} {e : Ef} (h : WEff P T R o τ e) (hv : ∀ x ∈ o.op.operands, τ'.val x = τ.val x) (hc : ∀ k, Refs o τ k → τ'.c k = τ.c k ∧ τ'.sh k = τ.sh k)
    (hu : ∀ d, o.dst = some d → τ.us d = false → τ'.us d = false ∧ (τ.sh d = false → τ'.sh d = false)) : WEff P T R o τ' e := by
  cases h with
  | storeA t x y k i A z ks ty ho hT hx hA hy hsh hi hz hw =>
    have hmx : x ∈ o.op.operands := by rw [ho]; simp [Op.operands]
    have hmy : y ∈ o.op.operands := by rw [ho]; simp [Op.operands]
    have hk := hc k ⟨x, hmx, by rw [hx]; rfl⟩
    refine .storeA t x y k i A z ks ty ho hT (by rw [hv x hmx]; exact hx) (by rw [hk.1]; exact hA) (by rw [hv y hmy]; exact hy.locl fun j hj => (hc j ⟨y, hmy, hj⟩).1) ?_ hi hz hw
    rw [shares_sh] at hsh ⊢; rw [hk.2]; exact hsh
  | storeF t x y k i f A fs z ks ty ho hT hx hA hy hsh hi hf hz hw =>
    have hmx : x ∈ o.op.operands := by rw [ho]; simp [Op.operands]
    have hmy : y ∈ o.op.operands := by rw [ho]; simp [Op.operands]
    have hk := hc k ⟨x, hmx, by rw [hx]; rfl⟩
    refine .storeF t x y k i f A fs z ks ty ho hT (by rw [hv x hmx]; exact hx) (by rw [hk.1]; exact hA) (by rw [hv y hmy]; exact hy.locl fun j hj => (hc j ⟨y, hmy, hj⟩).1) ?_ hi hf hz hw
    rw [shares_sh] at hsh ⊢; rw [hk.2]; exact hsh
  | appendA t x y e ety k m d A ys ho hd hus hds hT hE hx hA hsh he hsz hy hw hl =>
    have hmx : x ∈ o.op.operands := by rw [ho]; simp [Op.operands, Call.operands]
    have hmy : y ∈ o.op.operands := by rw [ho]; simp [Op.operands, Call.operands]
    have hk := hc k ⟨x, hmx, by rw [hx]; rfl⟩
    refine .appendA t x y e ety k m d A ys ho hd (hu d hd hus).1 ((hu d hd hus).2 hds) hT hE (by rw [hv x hmx]; exact hx) (by rw [hk.1]; exact hA) (by rw [hk.2]; exact hsh) he hsz ?_ hw hl
    rw [hv y hmy]
    exact hy.locl fun j hj => (hc j ⟨y, hmy, hj⟩).1
  | appendN t x y e ety d ys ho hd hus hT hE hp hx hy hw hl =>
    have hmx : x ∈ o.op.operands := by rw [ho]; simp [Op.operands, Call.operands]
    have hmy : y ∈ o.op.operands := by rw [ho]; simp [Op.operands, Call.operands]
    refine .appendN t x y e ety d ys ho hd (hu d hd hus).1 hT hE hp (by rw [hv x hmx]; exact hx) ?_ hw hl
    rw [hv y hmy]
    exact hy.locl fun j hj => (hc j ⟨y, hmy, hj⟩).1
  | lcall fx args tys f as ks k A r xs s al ho hfx hL hx hk hA hsh hct hr =>
    have hm := args_mem ho
    have e : args.toList.map τ'.val = args.toList.map τ.val := List.map_congr_left fun p hp => hv p (hm p hp)
    have hck := hc k (lent_ref ho hk)
    refine .lcall fx args tys f as ks k A r xs s al ho hfx hL ?_ ?_ (by rw [hck.1]; exact hA) ?_ hct (hr.usd fun d hd h => (hu d hd h).1)
    · rw [e]
      exact hx.locl fun s hs j hj => by obtain ⟨p, hp, rfl⟩ := List.mem_map.1 hs; exact (hc j ⟨p, hm p hp, hj⟩).1
    · obtain ⟨p, hp, h1⟩ := hk
      exact ⟨p, hp, by rw [hv p (hm p hp)]; exact h1⟩
    · rw [shares_sh] at hsh ⊢; rw [hck.2]; exact hsh
theorem GEff.move {o : Oper} {τ τ' : Ab} {dst : Option Nat} {e : Ef} (h : GEff P T R ops o τ e) (hs : ∀ t, dst ≠ some t → τ'.s t = τ.s t) (hl : ∀ d, dst = some d → d ∉ o.looksAt ops)
    (hc : ∀ k, Refs o τ k → τ'.c k = τ.c k ∧ τ'.sh k = τ.sh k) (hu : ∀ d, o.dst = some d → τ.us d = false → τ'.us d = false ∧ (τ.sh d = false → τ'.sh d = false)) : GEff P T R ops o τ' e := by
  cases h with
  | skip j t want hg ht hst => exact .skip j t want hg ht (by rw [hs t (fun e => hl t e (guard_looks hg ht))]; exact hst)
  | tame e hg h => exact .tame _ (hg.same hs hl) (h.locl ⟨val_same hs hl, fun x hx k hk => (hc k ⟨x, hx, hk⟩).1, fun d hd hud => (hu d hd hud).1⟩)
  | wild e hg h => exact .wild _ (hg.same hs hl) (h.locl2 (val_same hs hl) hc hu)

def Touch (e : Ef) (k : Nat) : Prop := e.ki = some k ∨ (∃ A, e.up = some (k, A)) ∨ ∃ A, e.al = some (k, A)
theorem eff_cg (τ : Ab) (dst : Option Nat) (e : Ef) (k : Nat) : (τ.eff dst e).c k = (match e.al with
    | some (j, A) => if k = j then some A else (match e.up with
      | some (i, B) => if k = i then some B else (match e.ki with | some h => if k = h then none else τ.c k | none => τ.c k)
      | none => (match e.ki with | some h => if k = h then none else τ.c k | none => τ.c k))
    | none => (match e.up with
      | some (i, B) => if k = i then some B else (match e.ki with | some h => if k = h then none else τ.c k | none => τ.c k)
      | none => (match e.ki with | some h => if k = h then none else τ.c k | none => τ.c k))) := by
  unfold Ab.eff
  rw [put_c]
  rcases e.al with _ | ⟨j, A⟩ <;> rcases e.up with _ | ⟨i, B⟩ <;> rcases e.ki with _ | h <;> simp only [Ab.alO, Ab.upO, Ab.kiO, Ab.al, Ab.up, Ab.kill, (shares_c τ e.sh).1]
theorem eff_c_un {τ : Ab} {dst : Option Nat} {e : Ef} {k : Nat} (h : ¬ Touch e k) : (τ.eff dst e).c k = τ.c k := by
  rw [eff_cg]
  unfold Touch at h
  rcases h1 : e.al with _ | ⟨j, A⟩ <;> rcases h2 : e.up with _ | ⟨i, B⟩ <;> rcases h3 : e.ki with _ | g <;> simp only [h1, h2, h3] at h ⊢ <;> (repeat' split) <;> simp_all
theorem eff_c_touch {τ τ' : Ab} {d d' : Option Nat} {e : Ef} {k : Nat} (h : Touch e k) : (τ.eff d e).c k = (τ'.eff d' e).c k := by
  rw [eff_cg, eff_cg]
  unfold Touch at h
  rcases h1 : e.al with _ | ⟨j, A⟩ <;> rcases h2 : e.up with _ | ⟨i, B⟩ <;> rcases h3 : e.ki with _ | g <;> simp only [h1, h2, h3] at h ⊢ <;> (repeat' split) <;> simp_all
  all_goals (exfalso; omega)

theorem commuteK {oi oj : Oper} {τ : Ab} {ei ej : Ef} (hap : oi.apart ops oj = true) (hdis : ∀ k, Refs oi τ k → ¬ Refs oj τ k) (hwf : WF τ) (hi : GEff P T R ops oi τ ei) (hj : GEff P T R ops oj (τ.eff oi.dst ei) ej) :
    GEff P T R ops oj τ ej ∧ GEff P T R ops oi (τ.eff oj.dst ej) ei ∧ (τ.eff oi.dst ei).eff oj.dst ej = (τ.eff oj.dst ej).eff oi.dst ei := by
  obtain ⟨h1, h2, h3⟩ := Oper.apart_spec hap
  have hsi : ∀ t, oi.dst ≠ some t → τ.s t = (τ.eff oi.dst ei).s t := fun t ht => by rw [eff_s, if_neg ht]
  have hsj : ∀ t, oj.dst ≠ some t → (τ.eff oj.dst ej).s t = τ.s t := fun t ht => by rw [eff_s, if_neg ht]
  obtain ⟨i1, i2, i3, i4⟩ := hi.touch
  have used : ∀ {o : Oper} {k : Nat}, Refs o τ k → τ.us k = true := fun ⟨x, _, hx⟩ => val_ref hwf hx
  -- the operands of oj hold the same before
  have hrj : ∀ k, Refs oj (τ.eff oi.dst ei) k ↔ Refs oj τ k := fun k => by
    have hv := val_same (o := oj) hsi h1
    constructor
    · rintro ⟨x, hx, hk⟩; exact ⟨x, hx, by rw [hv x hx]; exact hk⟩
    · rintro ⟨x, hx, hk⟩; exact ⟨x, hx, by rw [← hv x hx]; exact hk⟩
  have nti : ∀ k, Refs oj τ k → ¬ Touch ei k := fun k hk ht => by
    rcases ht with h | ⟨A, h⟩ | ⟨A, h⟩
    · exact hdis k (i1 k h) hk
    · exact hdis k (i2 k A h) hk
    · have := (i4 k A h).2; rw [used hk] at this; cases this
  have shi : ∀ k, Refs oj τ k → ei.sh.contains k = false := fun k hk => by
    cases hb : ei.sh.contains k with
    | false => rfl
    | true => exact absurd hk (hdis k (i3 k (by simpa using hb)))
  have back : GEff P T R ops oj τ ej := hj.move hsi h1 (fun k hk => by
      have hk' := (hrj k).1 hk
      exact ⟨(eff_c_un (nti k hk')).symm, by rw [eff_sh', shi k hk', Bool.or_false]⟩) (fun d hd hud => ⟨by
      rw [eff_us] at hud
      rcases hal : ei.al with _ | ⟨d', A⟩ <;> rw [hal] at hud
      · exact hud
      · simp only at hud
        split at hud
        · cases hud
        · exact hud, fun hu => by
      rw [eff_sh'] at hu
      cases hh : τ.sh d with
      | false => rfl
      | true => rw [hh] at hu; cases hu⟩)
  obtain ⟨j1, j2, j3, j4⟩ := back.touch
  have ntj : ∀ k, Refs oi τ k → ¬ Touch ej k := fun k hk ht => by
    rcases ht with h | ⟨A, h⟩ | ⟨A, h⟩
    · exact hdis k hk (j1 k h)
    · exact hdis k hk (j2 k A h)
    · have := (j4 k A h).2; rw [used hk] at this; cases this
  have shj : ∀ k, Refs oi τ k → ej.sh.contains k = false := fun k hk => by
    cases hb : ej.sh.contains k with
    | false => rfl
    | true => exact absurd (j3 k (by simpa using hb)) (hdis k hk)
  have on : GEff P T R ops oi (τ.eff oj.dst ej) ei := hi.move hsj h3 (fun k hk => ⟨eff_c_un (ntj k hk), by rw [eff_sh', shj k hk, Bool.or_false]⟩) (fun d hd hud => ⟨by
      rw [eff_us]
      rcases hal : ej.al with _ | ⟨d', A⟩
      · exact hud
      · simp only
        split
        · rename_i e
          subst e
          exact absurd (j4 d A hal).1 (h2 d hd)
        · exact hud, fun hu => by
      rw [eff_sh', hu, Bool.false_or]
      cases hb : ej.sh.contains d with
      | false => rfl
      | true =>
        have := used (j3 d (by simpa using hb))
        rw [hud] at this; cases this⟩)
  refine ⟨back, on, ?_⟩
  have nb : ∀ k, Touch ei k → ¬ Touch ej k := fun k ht hu => by
    have fi : Refs oi τ k ∨ (oi.dst = some k ∧ τ.us k = false) := by
      rcases ht with h | ⟨A, h⟩ | ⟨A, h⟩
      · exact .inl (i1 k h)
      · exact .inl (i2 k A h)
      · exact .inr (i4 k A h)
    have fj : Refs oj τ k ∨ (oj.dst = some k ∧ τ.us k = false) := by
      rcases hu with h | ⟨A, h⟩ | ⟨A, h⟩
      · exact .inl (j1 k h)
      · exact .inl (j2 k A h)
      · exact .inr (j4 k A h)
    rcases fi with fi | ⟨d1, u1⟩ <;> rcases fj with fj | ⟨d2, u2⟩
    · exact hdis k fi fj
    · have := used fi; rw [u2] at this; cases this
    · have := used fj; rw [u1] at this; cases this
    · exact h2 k d1 d2
  refine Ab.ext' (funext fun t => ?_) (funext fun k => ?_) (funext fun k => ?_) (funext fun k => ?_)
  · rw [eff_s, eff_s, eff_s, eff_s]
    by_cases a : oi.dst = some t
    · have b : oj.dst ≠ some t := h2 t a
      simp [a, b]
    · simp [a]
  · by_cases a : Touch ei k
    · rw [eff_c_un (nb k a), eff_c_touch (τ' := τ) (d' := oi.dst) a]
      exact eff_c_touch (τ := τ) (d := oi.dst) a
    · by_cases b : Touch ej k
      · rw [eff_c_un (τ := τ.eff oj.dst ej) a, eff_c_touch (τ' := τ) (d' := oj.dst) b]
      · rw [eff_c_un b, eff_c_un a, eff_c_un a, eff_c_un b]
  · rw [eff_sh', eff_sh', eff_sh', eff_sh', Bool.or_assoc, Bool.or_assoc, Bool.or_comm (ei.sh.contains k)]
  · rw [eff_us, eff_us, eff_us, eff_us]
    rcases hal : ei.al with _ | ⟨d, A⟩ <;> rcases hbl : ej.al with _ | ⟨d', B⟩ <;> simp only
    by_cases c1 : k = d <;> by_cases c2 : k = d' <;> simp [c1, c2]
end
end Go.DL

namespace Go.DL
open Go.RowKit
section
variable {P : Program} {T : Tys} {R : List Nat} {ops : Array Oper}

/-- Operation number i comes up in state τ. -/
def GStep (P : Program) (T : Tys) (R : List Nat) (ops : Array Oper) (i : Nat) (τ τ' : Ab) : Prop := ∃ o e, ops[i]? = some o ∧ GEff P T R ops o τ e ∧ τ' = τ.eff o.dst e

def dAny (P : Program) (T : Tys) (R : List Nat) (ops : Array Oper) (Q : Ab → Prop) : Nat → Array Bool → Ab → Prop
  | 0, listed, τ => Region.ready .any ops listed = [] ∧ Q τ
  | fuel + 1, listed, τ => (Region.ready .any ops listed = [] → Q τ) ∧ ∀ i ∈ Region.ready .any ops listed, ∃ τ', GStep P T R ops i τ τ' ∧ dAny P T R ops Q fuel (listed.setIfInBounds i true) τ'

section
variable {X : Env} {w0 : World} {M0 : Mem} {n : Nat} {τ τ' : Ab} {ac : Act} {w : World} {Q : Exit → Act → World → Prop} {M : Mem} {γ : Nat → Value}

theorem yielded_of (h : SimW X w0 M0 n τ ac w M γ) {j t : Nat} (ht : (ops[j]?).bind (·.dst) = some t) :
    (∀ b, τ.s t = .d (.sc (.bool b)) → yielded ops ac.tmps j = some b) ∧ (τ.s t = .un → yielded ops ac.tmps j = none) := by
  have hs := h.slots t
  constructor
  · intro b hb
    rw [hb] at hs
    have hv := rep_sc hs
    unfold yielded
    rw [ht]
    simp only [Option.bind_some]
    cases hh : ac.tmps[t]? with
    | none => simp [hh] at hv; cases hv
    | some v => simp [hh] at hv; rw [hv]
  · intro hb
    rw [hb] at hs
    have hv : ac.tmps.getD t undef = undef := hs
    unfold yielded
    rw [ht]
    simp only [Option.bind_some]
    cases hh : ac.tmps[t]? with
    | none => rfl
    | some v => simp [hh] at hv; rw [hv]; rfl

theorem GStep.sound (hT : TOK P T) (hd : ∀ (i : Nat) (o : Oper), ops[i]? = some o → ∀ d, o.dst = some d → d < n) {i : Nat} (hg : GStep P T R ops i τ τ') (h : Sim X w0 M0 n τ ac w) {K : Act → World → Prop}
    (hK : ∀ ac' w', Sim X w0 M0 n τ' ac' w' → K ac' w') : wpOp P ops Q i K ac w := by
  obtain ⟨o, e, ho, hge, rfl⟩ := hg
  obtain ⟨M, γ, hs⟩ := h
  have wanted : Wanted ops τ o → Region.wanted o (yielded ops ac.tmps) = true := fun hw => by
    unfold Region.wanted
    rcases hw with hw | ⟨j, want, t, h1, h2, h3⟩
    · rw [hw]
    · rw [h1]
      simp only [(yielded_of hs h2).1 want h3, beq_self_eq_true]
  unfold wpOp
  rw [ho]
  simp only
  cases hge with
  | skip j t want hgd ht hst =>
    have : Region.wanted o (yielded ops ac.tmps) = false := by
      unfold Region.wanted
      rw [hgd]
      rcases hst with hst | hst
      · simp only [(yielded_of hs ht).2 hst]; rfl
      · simp only [(yielded_of hs ht).1 _ hst]
        cases want <;> rfl
    rw [this]
    simp only [Bool.false_eq_true, if_false]
    exact hK _ _ ⟨M, γ, hs.put (hd i o ho) rfl⟩
  | tame _ hg h =>
    rw [wanted hg]
    simp only [if_true]
    exact .inl (Oper.wp_mono hK (h.sound hT (hd i o ho) hs Q))
  | wild _ hg h =>
    rw [wanted hg]
    simp only [if_true]
    exact .inl (Oper.wp_mono hK (h.sound hT (hd i o ho) hs Q))

theorem wpAny_of_dAny (hT : TOK P T) (hd : ∀ (i : Nat) (o : Oper), ops[i]? = some o → ∀ d, o.dst = some d → d < n) {Qd : Ab → Prop} (hQ : ∀ τ ac w, Qd τ → Sim X w0 M0 n τ ac w → Q .normal ac w) :
    ∀ (fuel : Nat) (listed : Array Bool) (τ : Ab) (ac : Act) (w : World), dAny P T R ops Qd fuel listed τ → Sim X w0 M0 n τ ac w → wpAny P .any ops Q fuel listed ac w
  | 0, _, _, _, _, h, hs => ⟨h.1, hQ _ _ _ h.2 hs⟩
  | fuel + 1, listed, τ, ac, w, h, hs => ⟨fun h0 => hQ _ _ _ (h.1 h0) hs, fun i hi => by
      obtain ⟨τ', h1, h2⟩ := h.2 i hi
      exact h1.sound hT hd hs fun ac' w' hs' => wpAny_of_dAny hT hd hQ fuel _ τ' ac' w' h2 hs'⟩
end

/-! ### Who waits for whom -/
inductive Anc (ops : Array Oper) : Nat → Nat → Prop
  | one {j : Nat} {o : Oper} {e : Edge} (ho : ops[j]? = some o) (he : e ∈ o.after) (hb : Region.binds .any e = true) : Anc ops j e.on
  | more {j i : Nat} {o : Oper} {e : Edge} (ho : ops[j]? = some o) (he : e ∈ o.after) (hb : Region.binds .any e = true) (h : Anc ops e.on i) : Anc ops j i

def Closed (ops : Array Oper) (listed : Array Bool) : Prop :=
  ∀ (j : Nat) (o : Oper), listed.getD j false = true → ops[j]? = some o → ∀ e ∈ o.after, Region.binds .any e = true → listed.getD e.on false = true

theorem Closed.anc {listed : Array Bool} (hc : Closed ops listed) {j i : Nat} (ha : Anc ops j i) (hj : listed.getD j false = true) : listed.getD i false = true := by
  induction ha with
  | one ho he hb => exact hc _ _ hj ho _ he hb
  | more ho he hb _ ih => exact ih (hc _ _ hj ho _ he hb)

theorem ready_anc {listed : Array Bool} (hc : Closed ops listed) {j i : Nat} (hj : j ∈ Region.ready .any ops listed) (ha : Anc ops j i) : listed.getD i false = true := by
  obtain ⟨_, o, ho, hall⟩ := mem_ready.1 hj
  cases ha with
  | one ho' he hb => rw [ho] at ho'; cases ho'; exact hall _ he hb
  | more ho' he hb h => rw [ho] at ho'; cases ho'; exact hc.anc h (hall _ he hb)

theorem Closed.step {listed : Array Bool} (hc : Closed ops listed) {j : Nat} (hj : j ∈ Region.ready .any ops listed) : Closed ops (listed.setIfInBounds j true) := by
  intro k o hk ho e he hb
  by_cases hkj : j = k
  · subst hkj
    obtain ⟨_, o', ho', hall⟩ := mem_ready.1 hj
    rw [ho] at ho'; cases ho'
    exact getD_set_true (hall e he hb)
  · rw [getD_set_ne false hkj] at hk
    exact getD_set_true (hc k o hk ho e he hb)

theorem unlisted_iff {listed : Array Bool} {i : Nat} (h : listed.getD i true = false) : listed.getD i false = false := by
  rcases Nat.lt_or_ge i listed.size with h' | h'
  · simpa [h'] using h
  · simp [Array.getElem?_eq_none h'] at h

/-- An operation that may come up now may be taken first. -/
theorem dAny_first {Q : Ab → Prop} {i : Nat} {oi : Oper} {ei : Ef} (hi : ops[i]? = some oi) :
    ∀ (fuel : Nat) (listed : Array Bool) (τ : Ab), Closed ops listed → WF τ →
      (∀ (j : Nat) (oj : Oper), ops[j]? = some oj → j ≠ i → listed.getD j true = false → ¬ Anc ops j i → oi.apart ops oj = true ∧ compat R oi.op oj.op = true) →
      i ∈ Region.ready .any ops listed → GEff P T R ops oi τ ei →
      dAny P T R ops Q fuel (listed.setIfInBounds i true) (τ.eff oi.dst ei) → dAny P T R ops Q (fuel + 1) listed τ := by
  intro fuel
  induction fuel with
  | zero =>
    intro listed τ _ _ _ hr hy H
    refine ⟨fun h => (by rw [h] at hr; cases hr), fun j hj => ?_⟩
    by_cases hji : j = i
    · subst hji; exact ⟨_, ⟨oi, ei, hi, hy, rfl⟩, H⟩
    · have := ready_mono hj hji
      rw [H.1] at this
      cases this
  | succ fuel ih =>
    intro listed τ hcl hwf hfree hr hy H
    refine ⟨fun h => (by rw [h] at hr; cases hr), fun j hj => ?_⟩
    by_cases hji : j = i
    · subst hji; exact ⟨_, ⟨oi, ei, hi, hy, rfl⟩, H⟩
    · obtain ⟨τ2, ⟨oj, ej, hoj, hgj, rfl⟩, h1⟩ := H.2 j (ready_mono hj hji)
      obtain ⟨hjun, oj', hoj', hall⟩ := mem_ready.1 hj
      rw [hoj] at hoj'; cases hoj'
      have hnot : ¬ Anc ops j i := fun ha => by
        have h1 := ready_anc hcl hj ha
        have h0 := unlisted_iff (mem_ready.1 hr).1
        rw [h0] at h1; cases h1
      obtain ⟨hap, hcp⟩ := hfree j oj hoj hji hjun hnot
      obtain ⟨c1, c2, c3⟩ := commute hap hcp hwf hy hgj
      refine ⟨_, ⟨oj, ej, hoj, c1, rfl⟩, ?_⟩
      refine ih (listed.setIfInBounds j true) (τ.eff oj.dst ej) (hcl.step hj) (eff_wf hwf c1) (fun k ok hk hki hun hno => ?_) (ready_mono hr (Ne.symm hji)) c2 ?_
      · refine hfree k ok hk hki ?_ hno
        by_cases hjk : j = k
        · subst hjk; exact hjun
        · rw [getD_set_ne true hjk] at hun; exact hun
      · rw [← c3, Array.setIfInBounds_comm _ _ hji]
        exact h1

/-! ### The Bool over a region -/
def ancList (l : List Oper) : List (List Nat) :=
  l.foldl (fun acc o => acc ++ [((o.after.toList.filter (Region.binds .any)).flatMap fun e => e.on :: acc.getD e.on []).eraseDups]) []

def clsB (R : List Nat) (ops : List Oper) : Bool :=
  if ops.all (fun o => cls R o.op != 2) then true else
  let an := ancList ops
  (List.range ops.length).all fun j => (List.range j).all fun i =>
    match ops[i]?, ops[j]? with
    | some oi, some oj => compat R oi.op oj.op || (an.getD j []).contains i
    | _, _ => true

theorem ancList_aux (all : List Oper) : ∀ (l : List Oper) (acc : List (List Nat)), (∀ k, l[k]? = all[acc.length + k]?) → (∀ j, ∀ x ∈ acc.getD j [], Anc all.toArray j x) →
    ∀ j, ∀ x ∈ (l.foldl (fun acc o => acc ++ [((o.after.toList.filter (Region.binds .any)).flatMap fun e => e.on :: acc.getD e.on []).eraseDups]) acc).getD j [], Anc all.toArray j x
  | [], acc, _, h => h
  | o :: l, acc, hl, h => by
    simp only [List.foldl_cons]
    refine ancList_aux all l _ (fun k => ?_) (fun j x hx => ?_)
    · have := hl (k + 1)
      simp only [List.getElem?_cons_succ] at this
      rw [this]
      congr 1
      simp
      omega
    · have ho : all.toArray[acc.length]? = some o := by have := hl 0; simpa using this.symm
      by_cases hj : j < acc.length
      · rw [List.getD_eq_getElem?_getD, List.getElem?_append_left hj] at hx
        exact h j x (by rw [List.getD_eq_getElem?_getD]; exact hx)
      · by_cases hj2 : j = acc.length
        · subst hj2
          rw [List.getD_eq_getElem?_getD, List.getElem?_append_right (Nat.le_refl _)] at hx
          simp only [Nat.sub_self, List.getElem?_cons_zero, Option.getD_some, List.mem_eraseDups, List.mem_flatMap, List.mem_filter, List.mem_cons] at hx
          obtain ⟨e, ⟨he, hb⟩, hx⟩ := hx
          have he' : e ∈ o.after := Array.mem_def.2 he
          rcases hx with rfl | hx
          · exact .one ho he' hb
          · exact .more ho he' hb (h e.on x hx)
        · rw [List.getD_eq_getElem?_getD, List.getElem?_eq_none (by simp; omega)] at hx
          simp at hx

theorem clsB_spec {ops : List Oper} (h : clsB R ops = true) {i j : Nat} (hij : i < j) {oi oj : Oper} (hi : ops[i]? = some oi) (hj : ops[j]? = some oj) (hn : ¬ Anc ops.toArray j i) : compat R oi.op oj.op = true := by
  unfold clsB at h
  split at h
  · rename_i hall
    rw [List.all_eq_true] at hall
    have h1 := hall oi (List.mem_of_getElem? hi)
    have h2 := hall oj (List.mem_of_getElem? hj)
    have c : ∀ op, cls R op = 0 ∨ cls R op = 1 ∨ cls R op = 2 := fun op => by unfold cls; split <;> first | (simp; done) | (split <;> simp)
    simp only [bne_iff_ne, ne_eq] at h1 h2
    simp only [compat, Bool.or_eq_true, Bool.and_eq_true, beq_iff_eq]
    have := c oi.op
    have := c oj.op
    omega
  · simp only [List.all_eq_true, List.mem_range] at h
    have hjl := (List.getElem?_eq_some_iff.1 hj).1
    have := h j hjl i hij
    simp only [hi, hj, Bool.or_eq_true] at this
    rcases this with h1 | h1
    · exact h1
    · exfalso
      exact hn (ancList_aux ops ops [] (fun k => by simp) (fun j x hx => by simp at hx) j i (by simpa [ancList] using h1))

/-- The region in the order of the text. -/
def dLex (P : Program) (T : Tys) (R : List Nat) (ops : Array Oper) (Q : Ab → Prop) : List Oper → Ab → Prop
  | [], τ => Q τ
  | o :: rest, τ => ∃ e, GEff P T R ops o τ e ∧ dLex P T R ops Q rest (τ.eff o.dst e)

theorem closed_lex {ops : Array Oper} : ∀ (fuel k : Nat) (listed : Array Bool), Region.lexFrom .any ops fuel k listed = true → True := fun _ _ _ _ => trivial

theorem dAny_lex {Q : Ab → Prop} {all : List Oper} (hc : clsB R all = true) : ∀ (l : List Oper) (k : Nat) (listed : Array Bool) (τ : Ab), (∀ j, l[j]? = all[k + j]?) → (∀ j, j < k → listed.getD j true = true) → Closed all.toArray listed → WF τ →
    Region.lexFrom .any all.toArray l.length k listed = true → dLex P T R all.toArray Q l τ → dAny P T R all.toArray Q l.length listed τ
  | [], _, _, _, _, _, _, _, hB, h => ⟨by simpa [Region.lexFrom] using hB, h⟩
  | o :: l, k, listed, τ, hl, hlt, hcl, hwf, hB, h => by
    have h0 : all.toArray[k]? = some o := by have := hl 0; simpa using this.symm
    simp only [List.length_cons, Region.lexFrom, Bool.and_eq_true] at hB
    obtain ⟨⟨hr, hf⟩, hB'⟩ := hB
    obtain ⟨e, hg, hK⟩ := h
    have hr' : k ∈ Region.ready .any all.toArray listed := by simpa using hr
    refine dAny_first h0 l.length listed τ hcl hwf (fun j oj hj hne hun hno => ?_) hr' hg ?_
    · have hap := Region.free_spec h0 hf j oj hj hne hun (fun e he hb heq => hno (heq ▸ .one hj he hb))
      have hkj : k < j := by
        rcases Nat.lt_or_ge j k with h1 | h1
        · rw [hlt j h1] at hun; cases hun
        · omega
      exact ⟨hap, clsB_spec hc hkj (by simpa using h0) (by simpa using hj) hno⟩
    · refine dAny_lex hc l (k + 1) _ _ (fun j => by have := hl (j + 1); simpa [Nat.add_assoc, Nat.add_comm 1 j] using this) (fun j hj => ?_) (hcl.step hr') (eff_wf hwf hg) hB' hK
      by_cases hjk : k = j
      · subst hjk
        by_cases hs : k < listed.size
        · simp [hs]
        · simp [Array.getElem?_eq_none (show (listed.setIfInBounds k true).size ≤ k by simpa using hs)]
      · rw [getD_set_ne true hjk]; exact hlt j (by omega)

/-! ### The same, where what the operands refer to is listed -/
def Okk (Ks : Nat → List Nat) (j : Nat) (o : Oper) (τ : Ab) : Prop := ∀ k, Refs o τ k → k ∈ Ks j
def dAnyK (P : Program) (T : Tys) (R : List Nat) (ops : Array Oper) (Ks : Nat → List Nat) (Q : Ab → Prop) : Nat → Array Bool → Ab → Prop
  | 0, listed, τ => Region.ready .any ops listed = [] ∧ Q τ
  | fuel + 1, listed, τ => (Region.ready .any ops listed = [] → Q τ) ∧ ∀ i ∈ Region.ready .any ops listed, ∃ o e, ops[i]? = some o ∧ GEff P T R ops o τ e ∧ Okk Ks i o τ ∧ dAnyK P T R ops Ks Q fuel (listed.setIfInBounds i true) (τ.eff o.dst e)

theorem dAny_of_K {Ks : Nat → List Nat} {Q : Ab → Prop} : ∀ (fuel : Nat) (listed : Array Bool) (τ : Ab), dAnyK P T R ops Ks Q fuel listed τ → dAny P T R ops Q fuel listed τ
  | 0, _, _, h => h
  | fuel + 1, listed, τ, h => ⟨h.1, fun i hi => by
      obtain ⟨o, e, h1, h2, _, h3⟩ := h.2 i hi
      exact ⟨_, ⟨o, e, h1, h2, rfl⟩, dAny_of_K fuel _ _ h3⟩⟩

theorem refs_same {o : Oper} {τ τ' : Ab} {dst : Option Nat} (hs : ∀ t, dst ≠ some t → τ'.s t = τ.s t) (h : ∀ d, dst = some d → d ∉ o.looksAt ops) (k : Nat) : Refs o τ' k ↔ Refs o τ k := by
  have hv := val_same hs h
  constructor
  · rintro ⟨x, hx, hk⟩; exact ⟨x, hx, by rw [← hv x hx]; exact hk⟩
  · rintro ⟨x, hx, hk⟩; exact ⟨x, hx, by rw [hv x hx]; exact hk⟩

def disj (a b : List Nat) : Bool := a.all fun x => !(b.contains x)
theorem disj_spec {a b : List Nat} (h : disj a b = true) : ∀ k, k ∈ a → k ∉ b := fun k ha hb => by
  have := List.all_eq_true.1 h k ha
  simp at this
  exact this hb

theorem dAnyK_first {Ks : Nat → List Nat} {Q : Ab → Prop} {i : Nat} {oi : Oper} {ei : Ef} (hi : ops[i]? = some oi) :
    ∀ (fuel : Nat) (listed : Array Bool) (τ : Ab), Closed ops listed → WF τ →
      (∀ (j : Nat) (oj : Oper), ops[j]? = some oj → j ≠ i → listed.getD j true = false → ¬ Anc ops j i → oi.apart ops oj = true ∧ (compat R oi.op oj.op = true ∨ disj (Ks i) (Ks j) = true)) →
      i ∈ Region.ready .any ops listed → GEff P T R ops oi τ ei → Okk Ks i oi τ →
      dAnyK P T R ops Ks Q fuel (listed.setIfInBounds i true) (τ.eff oi.dst ei) → dAnyK P T R ops Ks Q (fuel + 1) listed τ := by
  intro fuel
  induction fuel with
  | zero =>
    intro listed τ _ _ _ hr hy hok H
    refine ⟨fun h => (by rw [h] at hr; cases hr), fun j hj => ?_⟩
    by_cases hji : j = i
    · subst hji; exact ⟨oi, ei, hi, hy, hok, H⟩
    · have := ready_mono hj hji
      rw [H.1] at this
      cases this
  | succ fuel ih =>
    intro listed τ hcl hwf hfree hr hy hok H
    refine ⟨fun h => (by rw [h] at hr; cases hr), fun j hj => ?_⟩
    by_cases hji : j = i
    · subst hji; exact ⟨oi, ei, hi, hy, hok, H⟩
    · obtain ⟨oj, ej, hoj, hgj, hokj, h1⟩ := H.2 j (ready_mono hj hji)
      obtain ⟨hjun, oj', hoj', hall⟩ := mem_ready.1 hj
      rw [hoj] at hoj'; cases hoj'
      have hnot : ¬ Anc ops j i := fun ha => by
        have h1 := ready_anc hcl hj ha
        have h0 := unlisted_iff (mem_ready.1 hr).1
        rw [h0] at h1; cases h1
      obtain ⟨hap, hcp⟩ := hfree j oj hoj hji hjun hnot
      obtain ⟨a1, a2, a3⟩ := Oper.apart_spec hap
      have hsi : ∀ t, oi.dst ≠ some t → (τ.eff oi.dst ei).s t = τ.s t := fun t ht => by rw [eff_s, if_neg ht]
      have hokj' : Okk Ks j oj τ := fun k hk => hokj k ((refs_same hsi a1 k).2 hk)
      have hcom : GEff P T R ops oj τ ej ∧ GEff P T R ops oi (τ.eff oj.dst ej) ei ∧ (τ.eff oi.dst ei).eff oj.dst ej = (τ.eff oj.dst ej).eff oi.dst ei := by
        rcases hcp with hcp | hcp
        · exact commute hap hcp hwf hy hgj
        · exact commuteK hap (fun k h1 h2 => disj_spec hcp k (hok k h1) (hokj' k h2)) hwf hy hgj
      obtain ⟨c1, c2, c3⟩ := hcom
      have hsj : ∀ t, oj.dst ≠ some t → (τ.eff oj.dst ej).s t = τ.s t := fun t ht => by rw [eff_s, if_neg ht]
      have hok2 : Okk Ks i oi (τ.eff oj.dst ej) := fun k hk => hok k ((refs_same hsj a3 k).1 hk)
      refine ⟨oj, ej, hoj, c1, hokj', ?_⟩
      refine ih (listed.setIfInBounds j true) (τ.eff oj.dst ej) (hcl.step hj) (eff_wf hwf c1) (fun k ok hk hki hun hno => ?_) (ready_mono hr (Ne.symm hji)) c2 hok2 ?_
      · refine hfree k ok hk hki ?_ hno
        by_cases hjk : j = k
        · subst hjk; exact hjun
        · rw [getD_set_ne true hjk] at hun; exact hun
      · rw [← c3, Array.setIfInBounds_comm _ _ hji]
        exact h1

def clsK (R : List Nat) (ops : List Oper) (Ks : List (List Nat)) : Bool :=
  let an := ancList ops
  (List.range ops.length).all fun j => (List.range j).all fun i =>
    match ops[i]?, ops[j]? with
    | some oi, some oj => compat R oi.op oj.op || disj (Ks.getD i []) (Ks.getD j []) || (an.getD j []).contains i
    | _, _ => true
theorem clsK_spec {ops : List Oper} {Ks : List (List Nat)} (h : clsK R ops Ks = true) {i j : Nat} (hij : i < j) {oi oj : Oper} (hi : ops[i]? = some oi) (hj : ops[j]? = some oj) (hn : ¬ Anc ops.toArray j i) : compat R oi.op oj.op = true ∨ disj (Ks.getD i []) (Ks.getD j []) = true := by
  unfold clsK at h
  simp only [List.all_eq_true, List.mem_range] at h
  have hjl := (List.getElem?_eq_some_iff.1 hj).1
  have := h j hjl i hij
  simp only [hi, hj, Bool.or_eq_true] at this
  rcases this with (h1 | h1) | h1
  · exact .inl h1
  · exact .inr h1
  · exfalso
    exact hn (ancList_aux ops ops [] (fun k => by simp) (fun j x hx => by simp at hx) j i (by simpa [ancList] using h1))

def dLexK (P : Program) (T : Tys) (R : List Nat) (ops : Array Oper) (Ks : Nat → List Nat) (Q : Ab → Prop) : List Oper → Nat → Ab → Prop
  | [], _, τ => Q τ
  | o :: rest, k, τ => ∃ e, GEff P T R ops o τ e ∧ Okk Ks k o τ ∧ dLexK P T R ops Ks Q rest (k + 1) (τ.eff o.dst e)

theorem dAnyK_lex {Q : Ab → Prop} {all : List Oper} {Ks : List (List Nat)} (hc : clsK R all Ks = true) : ∀ (l : List Oper) (k : Nat) (listed : Array Bool) (τ : Ab), (∀ j, l[j]? = all[k + j]?) → (∀ j, j < k → listed.getD j true = true) → Closed all.toArray listed → WF τ →
    Region.lexFrom .any all.toArray l.length k listed = true → dLexK P T R all.toArray (fun j => Ks.getD j []) Q l k τ → dAnyK P T R all.toArray (fun j => Ks.getD j []) Q l.length listed τ
  | [], _, _, _, _, _, _, _, hB, h => ⟨by simpa [Region.lexFrom] using hB, h⟩
  | o :: l, k, listed, τ, hl, hlt, hcl, hwf, hB, h => by
    have h0 : all.toArray[k]? = some o := by have := hl 0; simpa using this.symm
    simp only [List.length_cons, Region.lexFrom, Bool.and_eq_true] at hB
    obtain ⟨⟨hr, hf⟩, hB'⟩ := hB
    obtain ⟨e, hg, hok, hK⟩ := h
    have hr' : k ∈ Region.ready .any all.toArray listed := by simpa using hr
    refine dAnyK_first h0 l.length listed τ hcl hwf (fun j oj hj hne hun hno => ?_) hr' hg hok ?_
    · have hap := Region.free_spec h0 hf j oj hj hne hun (fun e he hb heq => hno (heq ▸ .one hj he hb))
      have hkj : k < j := by
        rcases Nat.lt_or_ge j k with h1 | h1
        · rw [hlt j h1] at hun; cases hun
        · omega
      exact ⟨hap, clsK_spec hc hkj (by simpa using h0) (by simpa using hj) hno⟩
    · refine dAnyK_lex hc l (k + 1) _ _ (fun j => by have := hl (j + 1); simpa [Nat.add_assoc, Nat.add_comm 1 j] using this) (fun j hj => ?_) (hcl.step hr') (eff_wf hwf hg) hB' hK
      by_cases hjk : k = j
      · subst hjk
        by_cases hs : k < listed.size
        · simp [hs]
        · simp [Array.getElem?_eq_none (show (listed.setIfInBounds k true).size ≤ k by simpa using hs)]
      · rw [getD_set_ne true hjk]; exact hlt j (by omega)

theorem dLex_of_K {Q : Ab → Prop} {Ks : Nat → List Nat} : ∀ {l : List Oper} {k : Nat} {τ : Ab}, dLexK P T R ops Ks Q l k τ → dLex P T R ops Q l τ
  | [], _, _, h => h
  | o :: l, k, τ, h => by obtain ⟨e, h1, _, h2⟩ := h; exact ⟨e, h1, dLex_of_K h2⟩

def dstB (n : Nat) (ops : List Oper) : Bool := ops.all fun o => match o.dst with | some d => d < n | none => true
theorem dstB_spec {n : Nat} {ops : List Oper} (h : dstB n ops = true) (i : Nat) (o : Oper) (ho : ops.toArray[i]? = some o) (d : Nat) (hd : o.dst = some d) : d < n := by
  have := List.all_eq_true.1 h o (List.mem_of_getElem? (by simpa using ho))
  simpa [hd] using this

section
variable {X : Env} {w0 : World} {M0 : Mem} {n : Nat} {τ : Ab} {ac : Act} {w : World} {Q : Exit → Act → World → Prop}

/-- A region that asks the tape: the walk in the order of the text serves every order. -/
theorem region_draw {id : Nat} {l : List Oper} (hm : P.follows .mixedOrders = true) (hT : TOK P T) (hB : Region.lexB .any l.toArray = true) (hc : clsB R l = true) (hn : dstB n l = true) {Qd : Ab → Prop}
    (h : dLex P T R l.toArray Qd l τ) (hs : Sim X w0 M0 n τ ac w) (hQ : ∀ τ ac w, Qd τ → Sim X w0 M0 n τ ac w → Q .normal ac w) : (Code.region id l.toArray true).wp P Q ac w := by
  simp only [Region.lexB, Bool.and_eq_true] at hB
  have hwf := hs.wf
  obtain ⟨M, γ, hs⟩ := hs
  refine wp_region_any hm (wpAny_of_dAny (R := R) hT (dstB_spec hn) hQ _ _ τ _ _ ?_ ⟨M, γ, hs.drew _⟩)
  have := dAny_lex (P := P) (T := T) (R := R) (Q := Qd) hc l 0 (Array.replicate l.toArray.size false) τ (by simp) (fun j hj => absurd hj (Nat.not_lt_zero _)) (fun j o hj => ?_) hwf (by simpa using hB.2) h
  · simpa using this
  · exfalso
    simp only [Array.getD_eq_getD_getElem?, Array.getElem?_replicate] at hj
    split at hj <;> simp at hj

/-- A region that asks the tape, with what its operands refer to. -/
theorem region_drawK {id : Nat} {l : List Oper} {Ks : List (List Nat)} (hm : P.follows .mixedOrders = true) (hT : TOK P T) (hB : Region.lexB .any l.toArray = true) (hc : clsK R l Ks = true) (hn : dstB n l = true) {Qd : Ab → Prop}
    (h : dLexK P T R l.toArray (fun j => Ks.getD j []) Qd l 0 τ) (hs : Sim X w0 M0 n τ ac w) (hQ : ∀ τ ac w, Qd τ → Sim X w0 M0 n τ ac w → Q .normal ac w) : (Code.region id l.toArray true).wp P Q ac w := by
  simp only [Region.lexB, Bool.and_eq_true] at hB
  have hwf := hs.wf
  obtain ⟨M, γ, hs⟩ := hs
  refine wp_region_any hm (wpAny_of_dAny (R := R) hT (dstB_spec hn) hQ _ _ τ _ _ (dAny_of_K (Ks := fun j => Ks.getD j []) _ _ _ ?_) ⟨M, γ, hs.drew _⟩)
  have := dAnyK_lex (P := P) (T := T) (R := R) (Q := Qd) hc l 0 (Array.replicate l.toArray.size false) τ (by simp) (fun j hj => absurd hj (Nat.not_lt_zero _)) (fun j o hj => ?_) hwf (by simpa using hB.2) h
  · simpa using this
  · exfalso
    simp only [Array.getD_eq_getD_getElem?, Array.getElem?_replicate] at hj
    split at hj <;> simp at hj

/-- The region in the order of the text, where calls may have results that are known by a property. -/
def dLexE (P : Program) (T : Tys) (R : List Nat) (ops : Array Oper) (Q : Ab → Prop) : List Oper → Ab → Prop
  | [], τ => Q τ
  | o :: rest, τ => (∃ e, GEff P T R ops o τ e ∧ dLexE P T R ops Q rest (τ.eff o.dst e)) ∨ (∃ E : Ef → Prop, Wanted ops τ o ∧ DEff P T o τ E ∧ ∀ e, E e → dLexE P T R ops Q rest (τ.eff o.dst e))

theorem DStep.sound (hd : ∀ (i : Nat) (o : Oper), ops[i]? = some o → ∀ d, o.dst = some d → d < n) {i : Nat} {o : Oper} {E : Ef → Prop} (ho : ops[i]? = some o) (hw : Wanted ops τ o) (hg : DEff P T o τ E) (h : Sim X w0 M0 n τ ac w) {K : Act → World → Prop}
    (hK : ∀ e ac' w', E e → Sim X w0 M0 n (τ.eff o.dst e) ac' w' → K ac' w') : wpOp P ops Q i K ac w := by
  obtain ⟨M, γ, hs⟩ := h
  have hwa : Region.wanted o (yielded ops ac.tmps) = true := by
    unfold Region.wanted
    rcases hw with hw | ⟨j, want, t, h1, h2, h3⟩
    · rw [hw]
    · rw [h1]
      simp only [(yielded_of hs h2).1 want h3, beq_self_eq_true]
  unfold wpOp
  rw [ho]
  simp only [hwa, if_true]
  exact .inl (Oper.wp_mono (fun ac' w' h => by obtain ⟨e, h1, h2⟩ := h; exact hK e ac' w' h1 h2) (hg.sound (hd i o ho) hs Q))

theorem wpOps_lexE (hT : TOK P T) {l : List Oper} (hn : dstB n l = true) {Qd : Ab → Prop} (hQ : ∀ τ ac w, Qd τ → Sim X w0 M0 n τ ac w → Q .normal ac w) :
    ∀ (rest : List Oper) (k : Nat) (τ : Ab) (ac : Act) (w : World), (∀ j, rest[j]? = l[k + j]?) → dLexE P T R l.toArray Qd rest τ → Sim X w0 M0 n τ ac w → wpOps P l.toArray Q (List.range' k rest.length) ac w
  | [], _, τ, ac, w, _, h, hs => hQ τ ac w h hs
  | o :: rest, k, τ, ac, w, hl, h, hs => by
    have h0 : l.toArray[k]? = some o := by have := hl 0; simpa using this.symm
    have hl2 : ∀ j, rest[j]? = l[k + 1 + j]? := fun j => by have := hl (j + 1); simpa [Nat.add_assoc, Nat.add_comm 1 j] using this
    rw [List.length_cons, List.range'_succ, wpOps_cons]
    rcases h with ⟨e, hg, hK⟩ | ⟨E, hw, hg, hK⟩
    · exact GStep.sound (P := P) (T := T) (R := R) hT (dstB_spec hn) ⟨o, e, h0, hg, rfl⟩ hs fun ac' w' hs' => wpOps_lexE hT hn hQ rest (k + 1) _ ac' w' hl2 hK hs'
    · exact DStep.sound (P := P) (T := T) (dstB_spec hn) h0 hw hg hs fun e ac' w' he hs' => wpOps_lexE hT hn hQ rest (k + 1) _ ac' w' hl2 (hK e he) hs'

theorem wpOps_lex (hT : TOK P T) {l : List Oper} (hn : dstB n l = true) {Qd : Ab → Prop} (hQ : ∀ τ ac w, Qd τ → Sim X w0 M0 n τ ac w → Q .normal ac w) :
    ∀ (rest : List Oper) (k : Nat) (τ : Ab) (ac : Act) (w : World), (∀ j, rest[j]? = l[k + j]?) → dLex P T R l.toArray Qd rest τ → Sim X w0 M0 n τ ac w → wpOps P l.toArray Q (List.range' k rest.length) ac w
  | [], _, τ, ac, w, _, h, hs => hQ τ ac w h hs
  | o :: rest, k, τ, ac, w, hl, h, hs => by
    have h0 : l.toArray[k]? = some o := by have := hl 0; simpa using this.symm
    obtain ⟨e, hg, hK⟩ := h
    rw [List.length_cons, List.range'_succ, wpOps_cons]
    refine GStep.sound (P := P) (T := T) (R := R) hT (dstB_spec hn) ⟨o, e, h0, hg, rfl⟩ hs fun ac' w' hs' => ?_
    exact wpOps_lex hT hn hQ rest (k + 1) _ ac' w' (fun j => by have := hl (j + 1); simpa [Nat.add_assoc, Nat.add_comm 1 j] using this) hK hs'

theorem region_plain {id : Nat} {l : List Oper} (hT : TOK P T) (hn : dstB n l = true) {Qd : Ab → Prop}
    (h : dLexE P T R l.toArray Qd l τ) (hs : Sim X w0 M0 n τ ac w) (hQ : ∀ τ ac w, Qd τ → Sim X w0 M0 n τ ac w → Q .normal ac w) : (Code.region id l.toArray false).wp P Q ac w := by
  refine wp_region ?_
  have := wpOps_lexE (Q := Q) hT hn hQ l 0 τ ac w (by simp) h hs
  rw [List.range_eq_range']
  simpa using this
end
end
end Go.DL
