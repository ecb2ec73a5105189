/- Part of an evaluator of Go code on plain data, proved sound for the model: lemmas alone, for every program; each states its own conditions. -/
import Derived.Test.YtjhjedfnjimflaaEngD
namespace Go.DL
open Go.RowKit
section
variable {X : Env} {w0 : World} {M0 : Mem} {n : Nat} {τ : Ab} {ac : Act} {w : World} {M : Mem} {γ : Nat → Value} {P : Program} {T : Tys}

theorem rep_sc {M : Mem} {u v : Value} (h : Rep M (.sc u) v) : v = u := by cases h; rfl

def boundV (ρ : Operand → Value) (o : Option Operand) (d r : Nat) : Prop :=
  match o with
  | none => r = d
  | some x => ∃ k, ρ x = .int k (r : Int)

theorem boundOf_run (h : SimW X w0 M0 n τ ac w M γ) {o : Option Operand} {d r : Nat} (hb : boundOf τ.val o d r) : boundV ac.eval o d r := by
  cases o with
  | none => exact hb
  | some x =>
    obtain ⟨k, hk⟩ := hb
    have := h.val x
    rw [hk] at this
    exact ⟨k, rep_sc this⟩

theorem sliceBounds_run (P : Program) (w : World) (len cap : Nat) (lo hi : Option Operand) (ρ : Operand → Value) (l h : Nat) (hcap : len ≤ cap)
    (hl : boundV ρ lo 0 l) (hh : boundV ρ hi len h) (h1 : l ≤ h) (h2 : h ≤ len) :
    (Instr.sliceBounds true len cap (lo.map ρ) (hi.map ρ) none).run P w = .ok (l, h, cap) w := by
  have hc : h ≤ cap := Nat.le_trans h2 hcap
  cases lo with
  | none =>
    have hl' : l = 0 := hl
    subst hl'
    cases hi with
    | none => have hh' : h = len := hh; subst hh'; simp [Instr.sliceBounds]
    | some y =>
      obtain ⟨k, hk⟩ := hh
      simp [Instr.sliceBounds, hk, Instr.sliceBound, asIntOf, hc]
  | some x =>
    obtain ⟨k, hk⟩ := hl
    cases hi with
    | none => have hh' : h = len := hh; subst hh'; simp [Instr.sliceBounds, hk, Instr.sliceBound, asIntOf, h1]
    | some y =>
      obtain ⟨k', hk'⟩ := hh
      simp [Instr.sliceBounds, hk, hk', Instr.sliceBound, asIntOf, hc, h1]

theorem field_at {P : Program} {t : TypeId} {Fs : List F} (h : TyOK P t (.st Fs)) {f : Nat} (hf : f < Fs.length) :
    ∃ (fds : Array Field) (fd : Field), P.underlying t = some (.struct fds) ∧ fds[f]? = some fd ∧ fd.offset = f ∧ (∃ i, P.info? fd.type = some i ∧ i.size = 1) ∧ ∃ d, P.underlying fd.type = some d ∧ (match d with | .struct _ | .array _ _ => true | _ => false) = false := by
  obtain ⟨fds, hu, hsz, hfs, _⟩ := h.und
  obtain ⟨fd, h1, h2, _, h3, h4⟩ := hfs f _ (List.getElem?_eq_getElem hf)
  refine ⟨fds, fd, hu, h1, h2, h3, ?_⟩
  cases hk : Fs[f] <;> rw [hk] at h4 <;> simp only at h4
  case sl => obtain ⟨e, he⟩ := h4; exact ⟨_, he, rfl⟩
  all_goals exact ⟨_, h4, rfl⟩

theorem take_agg {M : Mem} {fs : List D} {v : Value} (h : Rep M (.agg fs) v) : ∃ cs : Array Value, v = .agg cs ∧ cs.size = fs.length ∧ (∀ (j : Nat) (f : D), fs[j]? = some f → f.isCell = true ∧ ∃ u, cs[j]? = some u ∧ Rep M f u) := by
  cases h with
  | agg _ cs hl hc h =>
    refine ⟨cs, rfl, hl, fun j f hj => ⟨hc f (List.mem_of_getElem? hj), cs.getD j undef, ?_, h j f hj⟩⟩
    have := (List.getElem?_eq_some_iff.1 hj).1
    have e : cs[j]? = some (cs[j]'(by omega)) := Array.getElem?_eq_getElem (by omega)
    simp [e]

theorem width_one {x : D} (h : x.isCell = true) : x.width = 1 := by cases x <;> first | rfl | cases h

theorem take_sl {M : Mem} {xs : List D} {v : Value} (h : Rep M (.sl xs) v) : ∃ a cap, v = .slice a xs.length cap ∧ xs.length ≤ cap ∧ (∀ (j : Nat) (y : D), xs[j]? = some y → ∃ ad, a = some ad ∧ ElPtr M y (ad.add (j * y.width))) := by
  cases h with
  | nil a cap => exact ⟨a, cap, rfl, Nat.zero_le _, fun j y hj => by simp at hj⟩
  | sl _ ad cap sz c hcap hsp hw hm hs hc ha =>
    refine ⟨some ad, cap, rfl, hcap, fun j y hj => ⟨ad, rfl, addr_add_spot _ _ hsp, fun hy => ?_, fun fs hfs i f hi => ?_⟩⟩
    · have h1 := hw y (List.mem_of_getElem? hj)
      have hj' := (List.getElem?_eq_some_iff.1 hj).1
      have hlt : j * sz < xs.length * sz := Nat.mul_lt_mul_of_pos_right hj' (by rw [← h1, width_one hy]; exact Nat.one_pos)
      rw [h1]
      exact ⟨c (j * sz), hm _ hlt, hs j y hj hy⟩
    · subst hfs
      have h1 := hw _ (List.mem_of_getElem? hj)
      have hj' := (List.getElem?_eq_some_iff.1 hj).1
      have hi' := (List.getElem?_eq_some_iff.1 hi).1
      have hlt : j * sz + i < xs.length * sz := by
        have := Nat.mul_le_mul_right sz (show j + 1 ≤ xs.length from hj')
        rw [Nat.add_mul, Nat.one_mul] at this
        simp only [D.width] at h1
        omega
      rw [h1, addr_add_add]
      exact ⟨hc j fs hj f (List.mem_of_getElem? hi), c (j * sz + i), hm _ hlt, ha j fs hj i f hi⟩

theorem slice_sl {M : Mem} {xs : List D} {v : Value} (h : Rep M (.sl xs) v) {l k : Nat} (h1 : l ≤ k) (h2 : k ≤ xs.length) {W : Nat} (hW : ∀ y ∈ xs, y.width = W) :
    ∃ a cap, v = .slice a xs.length cap ∧ xs.length ≤ cap ∧ Rep M (.sl ((xs.take k).drop l)) (.slice (if cap = l then a else a.map (·.add (l * W))) (k - l) (cap - l)) := by
  have hlen : ((xs.take k).drop l).length = k - l := by simp; omega
  cases h with
  | nil a cap =>
    have e1 : k = 0 := by simpa using h2
    subst e1
    have e2 : l = 0 := by omega
    subst e2
    exact ⟨a, cap, rfl, Nat.zero_le _, by simpa using Rep.nil _ _⟩
  | sl _ ad cap sz c hcap hsp hw hm hs hc ha =>
    refine ⟨some ad, cap, rfl, hcap, ?_⟩
    by_cases hlk : l = k
    · subst hlk
      have e : (xs.take l).drop l = [] := List.eq_nil_of_length_eq_zero (by omega)
      rw [e, Nat.sub_self]
      exact .nil _ _
    · have hx : l < xs.length := by omega
      have hWsz : W = sz := by
        have h3 := List.getElem_mem hx
        rw [← hW _ h3, hw _ h3]
      subst hWsz
      rw [if_neg (by omega)]
      have hget : ∀ (j : Nat) (y : D), ((xs.take k).drop l)[j]? = some y → xs[l + j]? = some y := fun j y hy => by
        rw [List.getElem?_drop, List.getElem?_take] at hy
        split at hy
        · exact hy
        · cases hy
      have := Rep.sl (M := M) ((xs.take k).drop l) (ad.add (l * W)) (cap - l) W (fun j => c (l * W + j)) (by omega) (addr_add_spot _ _ hsp)
        (fun x hx => hw x (List.mem_of_mem_take (List.mem_of_mem_drop hx)))
        (fun j hj => by
          rw [hlen] at hj
          rw [addr_add_add]
          refine hm _ ?_
          have := Nat.mul_le_mul_right W (show l + (k - l) ≤ xs.length by omega)
          rw [Nat.add_mul] at this
          omega)
        (fun j x hx hcx => by
          have h3 := hs (l + j) x (hget j x hx) hcx
          rwa [Nat.add_mul] at h3)
        (fun j fs hx f hf => hc (l + j) fs (hget j _ hx) f hf)
        (fun j fs hx i f hi => by
          have h3 := ha (l + j) fs (hget j _ hx) i f hi
          rw [Nat.add_mul, Nat.add_assoc] at h3
          exact h3)
      rw [hlen] at this
      exact this

theorem PEff.sound (hT : TOK P T) {o : Oper} {s : S} (h : PEff P T o.op τ.val s) (hs : SimW X w0 M0 n τ ac w M γ) :
    ∃ v, (execOp ac.eval o).run P w = .ok (.value v) w ∧ RepS M τ γ s v := by
  obtain ⟨dst, op, ty, pos, after, guard⟩ := o
  simp only at h
  cases h with
  | move x => exact ⟨ac.eval x, rfl, hs.val x⟩
  | assign x => exact ⟨ac.eval x, rfl, hs.val x⟩
  | pick c a b t hc =>
    have h1 := hs.val c
    rw [hc] at h1
    have h2 := rep_sc h1
    refine ⟨if t then ac.eval a else ac.eval b, ?_, ?_⟩
    · simp [execOp, h2, asBool]
    · cases t
      · exact hs.val b
      · exact hs.val a
  | bin op t x y yt u v r hx hy hb =>
    have h1 := hs.val x; rw [hx] at h1
    have h2 := hs.val y; rw [hy] at h2
    have e1 := rep_sc h1
    have e2 := rep_sc h2
    refine ⟨r, ?_, .sc r hb.1⟩
    have := hb.2 x y w
    simp only [execOp, e1, e2]
    rw [Sem.run_bind, this]
    rfl
  | eqA t x y yt Fs fs gs b hm hx hy he =>
    have h1 := hs.val x; rw [hx] at h1
    have h2 := hs.val y; rw [hy] at h2
    refine ⟨.bool b, ?_, .sc _ rfl⟩
    have := (eqA_run (hT _ hm) he h1 h2 x y w).1
    simp only [execOp]
    rw [Sem.run_bind, this]
    rfl
  | neA t x y yt Fs fs gs b hm hx hy he =>
    have h1 := hs.val x; rw [hx] at h1
    have h2 := hs.val y; rw [hy] at h2
    refine ⟨.bool (!b), ?_, .sc _ rfl⟩
    have := (eqA_run (hT _ hm) he h1 h2 x y w).2
    simp only [execOp]
    rw [Sem.run_bind, this]
    rfl
  | un op t x u r hx hb =>
    have h1 := hs.val x; rw [hx] at h1
    have e1 := rep_sc h1
    refine ⟨r, ?_, .sc r hb.1⟩
    have := hb.2 P w
    simp only [execOp, e1]
    rw [Sem.run_bind, this]
    rfl
  | field t x f Fs fs y hm hl hx hf =>
    have h1 := hs.val x; rw [hx] at h1
    obtain ⟨cs, hv, hsz, hcs⟩ := take_agg h1
    obtain ⟨hy, u, hu, hr⟩ := hcs f y hf
    have hlt := (List.getElem?_eq_some_iff.1 hf).1
    obtain ⟨fds, fd, hun, hfd, hoff, _, d, hd, hda⟩ := field_at (hT _ hm) (f := f) (by omega)
    refine ⟨u, ?_, hr⟩
    have hagg : (isAgg fd.type).run P w = .ok false w := by
      simp only [isAgg, Sem.run_bind, run_underlying hd, Result.andThen_ok]
      cases d <;> first | rfl | cases hda
    simp only [execOp, Instr.field, Sem.run_bind, run_underlying hun, Result.andThen_ok, hfd, hv, asAgg, part, Sem.run_pure, hagg, Bool.false_eq_true, if_false, hoff, hu]
  | fieldE t x f Fs fs y hm hl hx hf =>
    have h1 := hs.val x; rw [hx] at h1
    obtain ⟨ad, hv, hp⟩ := h1
    have hlt := (List.getElem?_eq_some_iff.1 hf).1
    obtain ⟨fds, fd, hun, hfd, hoff, ⟨i, hi, hi1⟩, _⟩ := field_at (hT _ hm) (f := f) (by omega)
    obtain ⟨hy, u, hu, hr⟩ := hp.2.2 fs rfl f y hf
    refine ⟨.pointer (some (ad.add f)), ?_, ad.add f, rfl, addr_add_spot _ _ hp.1, fun _ => ⟨u, hu, hr⟩, fun gs hgs => by subst hgs; cases hy⟩
    simp only [execOp, Instr.fieldAt, Sem.run_bind, run_underlying hun, Result.andThen_ok, hfd, hv, Instr.sureAddr, Sem.run_pure, fieldPlace, sizeOf, typeInfo, run_program, hi, hi1, Nat.one_ne_zero, if_false, hoff]
  | indexD t x ix e ety xs kd j y hm hE hx hi h0 hy hw =>
    have h1 := hs.val x; rw [hx] at h1
    have h2 := hs.val ix; rw [hi] at h2
    have e2 := rep_sc h2
    obtain ⟨a, cap, hv, hcap, hel⟩ := take_sl h1
    obtain ⟨ad, ha, hp⟩ := hel _ y hy
    subst ha
    have hlt := (List.getElem?_eq_some_iff.1 hy).1
    refine ⟨.pointer (some (ad.add (j.toNat * y.width))), ?_, _, rfl, hp⟩
    have hu := (hT _ hm).und
    simp only at hu
    have hin : 0 ≤ j ∧ j < xs.length := ⟨h0, by omega⟩
    simp only [execOp, hv, e2]
    simp [Instr.indexAt, asIntOf, run_underlying hu, hin, run_sizeOf (hT _ hE), ← hw]
  | indexS t x ix s kd j b hm hx hi h0 hb =>
    have h1 := hs.val x; rw [hx] at h1
    have h2 := hs.val ix; rw [hi] at h2
    have e1 := rep_sc h1
    have e2 := rep_sc h2
    have hu := (hT _ hm).und
    simp only at hu
    refine ⟨.int .u8 b.toNat, ?_, .sc _ rfl⟩
    simp only [execOp, e1, e2]
    simp [Instr.index, asIntOf, run_underlying hu, h0, hb]
  | sliceD t x lo hi e ety xs l h hm hE hx hlo hhi hlh hh hw =>
    have h1 := hs.val x; rw [hx] at h1
    obtain ⟨a, cap, hv, hcap, hr⟩ := slice_sl h1 hlh hh hw
    refine ⟨_, ?_, hr⟩
    have hu := (hT _ hm).und
    simp only at hu
    have hb := sliceBounds_run P w xs.length cap lo hi ac.eval l h hcap (boundOf_run hs hlo) (boundOf_run hs hhi) hlh hh
    simp only [execOp, hv, Instr.sliceAt, Sem.run_bind, run_underlying hu, Result.andThen_ok, Instr.slice, Option.map_none, hb, run_sizeOf (hT _ hE), Sem.run_pure]
  | extract x i xs r hx hi =>
    have h1 := hs.val x; rw [hx] at h1
    obtain ⟨vs, hv, hsz, hel⟩ := h1
    have hlt := (List.getElem?_eq_some_iff.1 hi).1
    have e : vs[i]? = some (vs[i]'(by omega)) := Array.getElem?_eq_getElem (by omega)
    have h2 := hel i r hi
    have e2 : vs.getD i undef = vs[i]'(by omega) := by simp [e]
    refine ⟨vs.getD i undef, ?_, ?_⟩
    · simp only [execOp, hv, Instr.extract, e, e2]
      rfl
    · cases r with
      | d x => exact h2
      | av k m => exact h2
  | lenD t x e xs hm hx =>
    have h1 := hs.val x; rw [hx] at h1
    obtain ⟨a, cap, hv, _⟩ := take_sl h1
    have hu := (hT _ hm).und
    simp only at hu
    refine ⟨.int .i64 xs.length, ?_, .sc _ rfl⟩
    simp [execOp, resolve, invoke, builtin, hv, Builtin.len_, run_underlying hu, goInt]
  | lenN t x e hm hx =>
    have h1 := hs.val x; rw [hx] at h1
    have hv : ac.eval x = .slice none 0 0 := h1
    have hu := (hT _ hm).und
    simp only at hu
    refine ⟨.int .i64 0, ?_, .sc _ rfl⟩
    simp [execOp, resolve, invoke, builtin, hv, Builtin.len_, run_underlying hu, goInt]
  | lenS t x s hm hx =>
    have h1 := hs.val x; rw [hx] at h1
    have hv := rep_sc h1
    have hu := (hT _ hm).und
    simp only at hu
    refine ⟨.int .i64 s.size, ?_, .sc _ rfl⟩
    simp [execOp, resolve, invoke, builtin, hv, Builtin.len_, run_underlying hu, goInt]
  | min x y t a b hx hy =>
    have h1 := hs.val x; rw [hx] at h1
    have h2 := hs.val y; rw [hy] at h2
    have e1 := rep_sc h1
    have e2 := rep_sc h2
    refine ⟨_, ?_, .sc _ rfl⟩
    simp [execOp, resolve, invoke, builtin, e1, e2, run_min_int2]
  | max x y t a b hx hy =>
    have h1 := hs.val x; rw [hx] at h1
    have h2 := hs.val y; rw [hy] at h2
    have e1 := rep_sc h1
    have e2 := rep_sc h2
    refine ⟨_, ?_, .sc _ rfl⟩
    simp [execOp, resolve, invoke, builtin, e1, e2, run_max_int2]
  | mkfn f => exact ⟨.func (.func f) #[] #[], by simp [execOp, Instr.makeFunc], rfl⟩
  | conv src dst x k k' m sty hm hd hx =>
    have h1 := hs.val x; rw [hx] at h1
    have e1 := rep_sc h1
    obtain ⟨d, hd', _⟩ := und_some (hT _ hm)
    refine ⟨.int k' (k'.wrap m), ?_, .sc _ rfl⟩
    simp only at hd'
    simp [execOp, e1, convert, run_underlying hd', run_underlying hd, Conv.intToInt]
end
end Go.DL
