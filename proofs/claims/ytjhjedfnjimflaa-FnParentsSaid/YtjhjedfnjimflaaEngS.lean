/- Part of an evaluator of Go code on plain data, proved sound for the model: lemmas alone, for every program; each states its own conditions. -/
import Derived.Test.YtjhjedfnjimflaaEngR
namespace Go.DL
open Go.RowKit Go.ChangeShapes Go.WideShapes

section
variable {H : Type} {enc : TypeId × Value → H} {P : Program}

theorem arg_rep {w : World} {base b0 : Nat} {spare : Nat → Bool} {held : Bool} {r : Reach} {n : Nat} {t : TypeId} {ty : TY} {v : Value} {d : DataW H} {ps : List MemPlace} (hb : tyB P n t ty = true) (hval : Value.okWide P w r b0 t v)
    (h : DataW.Trod enc P w base spare held t v d ps) : ∃ x, HasTy ty x ∧ Rep w.cell? x v := by
  obtain ⟨fuel, h⟩ := h
  obtain ⟨x, h1, h2, h3, h4⟩ := repC_of_trod fuel n hb h
  refine ⟨x, h1, ?_⟩
  cases n with
  | zero => simp [tyB] at hb
  | succ n =>
    unfold tyB at hb
    have one : ty.isSt = false → v.cells.toList = [v] → Rep w.cell? x v := by
      intro hs hc
      obtain ⟨u, hu, hr⟩ := h3 hs
      rw [hc] at hu
      simp at hu
      rw [hu]
      exact hr
    split at hb
    · rename_i ht; obtain ⟨m, rfl⟩ := okWide_int ht hval; exact one rfl rfl
    · rename_i ht; obtain ⟨m, rfl⟩ := okWide_int ht hval; exact one rfl rfl
    · rename_i ht; obtain ⟨m, rfl⟩ := okWide_bool ht hval; exact one rfl rfl
    · rename_i ht; obtain ⟨m, rfl⟩ := okWide_string ht hval; exact one rfl rfl
    · rename_i ht; obtain ⟨a, l, c, rfl⟩ := okWide_slice ht hval; exact one rfl rfl
    · rename_i fs fds ht
      obtain ⟨cs, rfl, hsz⟩ := okWide_struct ht hval
      cases h1 with
      | st _ ds h1 =>
        have hl : cs.size = fs.length := by simpa [Value.cells, TY.width] using h2
        refine .agg ds cs (by rw [hl, h1.length]) (fun f hf => ?_) (fun j f hj => ?_)
        · obtain ⟨i, hi⟩ := List.getElem?_of_mem hf
          exact (h4 ds rfl i f hi).1
        · obtain ⟨_, u, hu, hr⟩ := h4 ds rfl j f hj
          have : cs.getD j undef = u := by
            have : cs[j]? = some u := by simpa [Value.cells] using hu
            simp [this]
          rw [this]
          exact hr
    · cases hb

def argsB (P : Program) : List TypeId → List TY → Bool
  | [], [] => true
  | t :: ts, ty :: tys => tyB P 8 t ty && (P.readableRec t && Nat.blt t P.types.size) && argsB P ts tys
  | _, _ => false

theorem args_rep {w : World} {base b0 : Nat} {spare : Nat → Bool} {held : Bool} {r : Reach} : ∀ {ts : List TypeId} {tys : List TY} {vs : List Value} {ds : List (DataW H)} {ps : List MemPlace}, argsB P ts tys = true →
    (∀ (j : Nat) (t : TypeId) (v : Value), ts[j]? = some t → vs[j]? = some v → Value.okWide P w r b0 t v) → DataW.TrodAll enc P w base spare held ts vs ds ps →
    vs.length = ts.length ∧ ds.length = ts.length ∧ ∃ xs, HasTys tys xs ∧ ∀ (j : Nat) (x : D), xs[j]? = some x → ∃ v, vs[j]? = some v ∧ Rep w.cell? x v
  | [], tys, vs, ds, ps, hb, hval, h => by
    obtain ⟨rfl, rfl, rfl⟩ := trodAll_nil h
    cases tys with
    | nil => exact ⟨rfl, rfl, [], .nil, fun j x hx => by simp at hx⟩
    | cons => simp [argsB] at hb
  | t :: ts, tys, vs, ds, ps, hb, hval, h => by
    cases tys with
    | nil => simp [argsB] at hb
    | cons ty tys =>
    simp only [argsB, Bool.and_eq_true] at hb
    obtain ⟨v, vs', d, ds', p, q, rfl, rfl, h3, h1, h2⟩ := trodAll_cons h
    obtain ⟨x, hx1, hx2⟩ := arg_rep hb.1.1 (hval 0 t v rfl rfl) h1
    obtain ⟨l1, l2, xs, hx3, hx4⟩ := args_rep hb.2 (fun j t v ht hv => hval (j + 1) t v (by simpa using ht) (by simpa using hv)) h2
    refine ⟨by simp [l1], by simp [l2], x :: xs, .cons _ _ _ _ hx1 hx3, fun j y hy => ?_⟩
    cases j with
    | zero => simp at hy; subst hy; exact ⟨v, rfl, hx2⟩
    | succ j => simpa using hx4 j y (by simpa using hy)

theorem args_again {W W' : World} (hl : laidOutB P = true) (hb' : Below W.heap.size W W') {sp : Nat → Bool} : ∀ {ts : List TypeId} {tys : List TY} {vs : List Value} {ds : List (DataW H)} {ps : List MemPlace}, argsB P ts tys = true →
    DataW.TrodAll enc P W 0 (fun _ => true) true ts vs ds ps → (∀ x ∈ ps, x.block < W.heap.size) → (∀ p ∈ ps, sp p.block = true) → DataW.TrodAll enc P W' 0 sp true ts vs ds ps
  | [], tys, vs, ds, ps, hb, h, hlt, hsp => by
    obtain ⟨rfl, rfl, rfl⟩ := trodAll_nil h
    rfl
  | t :: ts, tys, vs, ds, ps, hb, h, hlt, hsp => by
    cases tys with
    | nil => simp [argsB] at hb
    | cons ty tys =>
    simp only [argsB, Bool.and_eq_true] at hb
    obtain ⟨v, vs', d, ds', p, q, rfl, rfl, h3, h1, h2⟩ := trodAll_cons h
    subst h3
    refine ⟨p, q, ?_, args_again hl hb' hb.2 h2 (fun x hx => hlt x (by simp [hx])) (fun x hx => hsp x (by simp [hx])), rfl⟩
    exact WideElems.Trod_stays hl hb.1.2.1 (by simpa using hb.1.2.2) h1 (fun x hx => hb'.same (hlt x (by simp [hx]))) (fun x hx => hsp x (by simp [hx]))

theorem post_of_below {f : Func} {s : ChangeSpec} {apart fresh handsOn again : Bool} {W W' : World} {args : Array Value} {v : Value} {ds gs : List (DataW H)} {before pa pv : List MemPlace}
    (hW : DataW.Whole enc P f.params.toList s.vars apart W args.toList ds gs before)
    (hres : ∀ (b : Nat) (sp : Nat → Bool) (hd : Bool), DataW.TrodAll enc P W' b sp hd f.resultTypes.toList (v.resultList f.resultTypes.size) (s.fn H (ds ++ gs)).results [])
    (hargs : ∀ sp : Nat → Bool, (∀ p ∈ before, sp p.block = true) → DataW.TrodAll enc P W' 0 sp true f.params.toList args.toList (s.fn H (ds ++ gs)).args pa)
    (hvars : ∀ sp : Nat → Bool, (∀ p ∈ before, sp p.block = true) → DataW.TrodVars enc P W' sp s.vars (s.fn H (ds ++ gs)).vars pv)
    (hps : before = pa ++ pv) (hb : Below W.heap.size W W')
    (hok : ∀ (j : Nat) (t : TypeId) (r : Value), f.resultTypes[j]? = some t → (v.resultList f.resultTypes.size)[j]? = some r → Value.okWide P W' .any 0 t r) :
    s.post enc P f apart fresh handsOn again W args v W' := by
  have hlt : ∀ p ∈ before, p.block < W.heap.size := fun p hp => hW.lt p hp
  have hold : ∀ p ∈ before, (fun b => decide (b < W.heap.size)) p.block = true := fun p hp => by simpa using hlt p hp
  refine ⟨ds, gs, before, [], pa, pv, hW, hres _ _ _, hargs _ hold, hvars _ hold, World.keptBut_mono (fun p hp => ⟨hp, ?_⟩) (hb.frame (· ∈ before)), fun _ => ?_⟩
  · rw [hps, List.mem_append] at hp
    exact Or.inr hp
  · obtain ⟨_, _, _, _, _, hz, hn⟩ := hW
    refine ⟨hok, _, _, ([] ++ pa) ++ pv, ⟨[] ++ pa, pv, trodAll_append (hargs _ (fun _ _ => rfl)) (hres _ _ _), hvars _ (fun _ _ => rfl), rfl, ?_, ?_⟩, ?_⟩
    · intro b off hp
      have hin : MemPlace.cell b off ∈ before := by rw [hps]; simpa using hp
      rw [hb.frozen (hlt _ hin)]
      exact hz b off hin
    · intro ha
      have := hn ha
      rw [hps] at this
      simpa using this
    · intro p hp _
      rw [hps]
      simpa using hp

/-- What the row asks, of a law whose contract says: true, whatever data of its parameters' types come in. -/
theorem law_calls {f : FuncId} {fn : Func} {s : ChangeSpec} {apart fresh handsOn again : Bool} {ts : List TypeId} {tb : TypeId} {tys : List TY} (hts : fn.params.toList = ts) (hrt : fn.resultTypes = #[tb]) (htb : P.underlying tb = some .bool)
    (hvars : s.vars = []) (hfn : ∀ ds : List (DataW H), ds.length = ts.length → s.fn H ds = { results := [.lit (.bool true)], args := ds }) (hl : laidOutB P = true) (hty : argsB P ts tys = true)
    (hc : ∀ xs, HasTys tys xs → Contract P f (xs.map .d) (.one (.d (.sc (.bool true)))))
    (W : World) (base : Nat) (args : Array Value) (ds gs : List (DataW H)) (before : List MemPlace)
    (hval : ∀ (j : Nat) t v, fn.params[j]? = some t → args[j]? = some v → Value.okWide P W .any base t v)
    (hW : DataW.Whole enc P fn.params.toList s.vars apart W args.toList ds gs before) :
    Calls P f args W fun e W' => ∃ v, e = .returned v ∧ s.post enc P fn apart fresh handsOn again W args v W' := by
  have hW0 := hW
  obtain ⟨pa, pv, hA, hV, hps, _, _⟩ := hW
  rw [hvars] at hV
  obtain ⟨rfl, rfl⟩ := trodVars_none hV
  rw [hts] at hA
  obtain ⟨l1, l2, xs, hx1, hx2⟩ := args_rep (r := .any) (b0 := base) hty (fun j t v ht hv => hval j t v (by rw [← hts] at ht; simpa using ht) (by simpa using hv)) hA
  have hlen : xs.length = ts.length := by
    have : ∀ {ts : List TypeId} {tys : List TY}, argsB P ts tys = true → ts.length = tys.length := by
      intro ts
      induction ts with
      | nil => intro tys h; cases tys <;> simp_all [argsB]
      | cons t ts ih => intro tys h; cases tys with
        | nil => simp [argsB] at h
        | cons ty tys => simp only [argsB, Bool.and_eq_true] at h; simp [ih h.2]
    rw [hx1.length, this hty]
  have hcall := (hc xs hx1).run W W.cell? args (fun _ _ h => h) (by simp [hlen, ← l1]) (fun j a ha => by
    simp only [List.getElem?_map, Option.map_eq_some_iff] at ha
    obtain ⟨x, hx, rfl⟩ := ha
    obtain ⟨v, hv, hr⟩ := hx2 j x hx
    have : args.getD j undef = v := by
      have : args[j]? = some v := by simpa using hv
      simp [this]
    rw [this]
    exact hr)
  refine hcall.mono fun e W' ⟨v, M', he, hb, hM, _, _, hr⟩ => ⟨v, he, ?_⟩
  have hv : v = .bool true := by
    have : Rep M' (.sc (.bool true)) v := hr
    cases this
    rfl
  subst hv
  have e2 : s.fn H (ds ++ []) = { results := [.lit (.bool true)], args := ds } := by rw [List.append_nil]; exact hfn ds l2
  have e3 : (s.fn H (ds ++ [])).results = [.lit (.bool true)] := by rw [e2]
  have e4 : (s.fn H (ds ++ [])).args = ds := by rw [e2]
  have e5 : (s.fn H (ds ++ [])).vars = [] := by rw [e2]
  have htrod : ∀ (b : Nat) (sp : Nat → Bool) (hd : Bool), DataW.Trod enc P W' b sp hd tb (.bool true) (.lit (.bool true)) [] := fun b sp hd => ⟨1, by simp [DataW.trod, htb, Value.cells]⟩
  refine post_of_below (pa := pa) (pv := []) hW0 (fun b sp hd => ?_) (fun sp hsp => ?_) (fun sp hsp => ?_) (by simpa using hps) hb ?_
  · rw [hrt, e3]
    exact ⟨[], [], htrod b sp hd, rfl, rfl⟩
  · rw [e4, hts]
    have hps' : before = pa := by simpa using hps
    exact args_again hl hb hty hA (fun x hx => hW0.lt x (by rw [hps']; exact hx)) (fun p hp => hsp p (by rw [hps']; exact hp))
  · rw [e5, hvars]
    rfl
  · intro j t r hj hr
    rw [hrt] at hj hr
    cases j with
    | zero =>
      simp [Value.resultList] at hj hr
      subst hj; subst hr
      simp [Value.okWide, htb, Cell.okWide, Cell.ok]
    | succ j => simp at hj
end
end Go.DL
