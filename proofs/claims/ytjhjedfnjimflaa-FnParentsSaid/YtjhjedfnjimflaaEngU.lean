/- Part of an evaluator of Go code on plain data, proved sound for the model: lemmas alone, for every program; each states its own conditions. -/
import Derived.Test.YtjhjedfnjimflaaEngT
namespace Go.DL
open Go.RowKit

def bodyOf (fn : Func) : Code := match fn.body with
  | some c => c
  | none => .skip
def fnB (fn : Func) : Bool := fn.body.isSome && !(fn.name == "runtime.NumGoroutine") && codeB fn.ntmps (bodyOf fn)
def fnBR (R : List Nat) (fn : Func) : Bool := fn.body.isSome && !(fn.name == "runtime.NumGoroutine") && codeBR fn.ntmps R (bodyOf fn)
theorem contract_byR (R : List Nat) {P : Program} {T : Tys} {fn : Func} {f : FuncId} {as : List A1} {r : Res} (hm : P.follows .mixedOrders = true) (hT : TOK P T) (hf : P.funcs[f]? = some fn) (hb : fnBR R fn = true) (hlen : Nat.ble as.length fn.ntmps = true)
    (h : dCR P T fn.ntmps R (bodyOf fn) (finQ T fn.results.toList r) ⟨initS as 0, [], []⟩) : Contract P f as r := by
  simp only [fnBR, Bool.and_eq_true, Bool.not_eq_true'] at hb
  obtain ⟨⟨h1, h2⟩, h3⟩ := hb
  obtain ⟨c, hc⟩ := Option.isSome_iff_exists.1 h1
  have e : bodyOf fn = c := by unfold bodyOf; rw [hc]
  rw [e] at h h3
  exact contract_ofR R hm hT hf hc h2 h3 (Nat.le_of_ble_eq_true hlen) h
theorem contract_by {P : Program} {T : Tys} {fn : Func} {f : FuncId} {as : List A1} {r : Res} (hm : P.follows .mixedOrders = true) (hT : TOK P T) (hf : P.funcs[f]? = some fn) (hb : fnB fn = true) (hlen : Nat.ble as.length fn.ntmps = true)
    (h : dC P T fn.ntmps (bodyOf fn) (finQ T fn.results.toList r) ⟨initS as 0, [], []⟩) : Contract P f as r := by
  simp only [fnB, Bool.and_eq_true, Bool.not_eq_true'] at hb
  obtain ⟨⟨h1, h2⟩, h3⟩ := hb
  obtain ⟨c, hc⟩ := Option.isSome_iff_exists.1 h1
  have e : bodyOf fn = c := by unfold bodyOf; rw [hc]
  rw [e] at h h3
  exact contract_of hm hT hf hc h2 h3 (Nat.le_of_ble_eq_true hlen) h
end Go.DL
