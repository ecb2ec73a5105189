/- The data of the program, as plain Lean. No conditions. -/
import Derived.Test.YtjhjedfnjimflaaEngW
namespace Go.DL
open Go.RowKit

abbrev lD {α : Type} (f : α → D) (l : List α) : D := .sl (l.map f)
def okL {α : Type} (ok : α → Prop) (l : List α) : Prop := l.length ≤ 9223372036854775807 ∧ ∀ v ∈ l, ok v
def wt0 (_ : Int) : Nat := 0
def wtL {α : Type} (wt : α → Nat) (l : List α) : Nat := l.length + sumW wt l
theorem wtL_len {α : Type} {wt : α → Nat} {l : List α} : l.length ≤ wtL wt l := by unfold wtL; omega
theorem wtL_mem {α : Type} {wt : α → Nat} {l : List α} {x : α} (h : x ∈ l) : wt x ≤ wtL wt l := by unfold wtL; have := sumW_mem (f := wt) h; omega
theorem sumW_zero {α : Type} (l : List α) : sumW (fun _ => 0) l = 0 := by induction l with | nil => rfl | cons x l ih => rw [sumW_cons, ih]

structure StepV where
  center : ByteArray
  setup : Int
  run : Int
def StepV.dat (x : StepV) : D := .agg [sD x.center, iD x.setup, iD x.run]
def StepV.ok (x : StepV) : Prop := okS x.center ∧ okI x.setup ∧ okI x.run
def StepV.wt (x : StepV) : Nat := ByteArray.size x.center
abbrev StepV.ty : TY := .st [.str, .int, .int]
def StepV.z : StepV := ⟨⟨#[]⟩, 0, 0⟩
theorem StepV.dec {x : D} (h : HasTy StepV.ty x) : ∃ v : StepV, x = v.dat ∧ v.ok := by
  obtain ⟨ds, rfl, g0⟩ := HasTy_st h
  obtain ⟨d0, r0, rfl, h0, g1⟩ := HasTys_cons g0
  obtain ⟨v0, rfl, k0⟩ := str_dec h0
  obtain ⟨d1, r1, rfl, h1, g2⟩ := HasTys_cons g1
  obtain ⟨v1, rfl, k1⟩ := int_dec h1
  obtain ⟨d2, r2, rfl, h2, g3⟩ := HasTys_cons g2
  obtain ⟨v2, rfl, k2⟩ := int_dec h2
  cases HasTys_nil g3
  exact ⟨⟨v0, v1, v2⟩, rfl, k0, k1, k2⟩

structure FlowV where
  day : Int
  quantity : Int
def FlowV.dat (x : FlowV) : D := .agg [iD x.day, iD x.quantity]
def FlowV.ok (x : FlowV) : Prop := okI x.day ∧ okI x.quantity
def FlowV.wt (_ : FlowV) : Nat := 0
abbrev FlowV.ty : TY := .st [.int, .int]
def FlowV.z : FlowV := ⟨0, 0⟩
theorem FlowV.dec {x : D} (h : HasTy FlowV.ty x) : ∃ v : FlowV, x = v.dat ∧ v.ok := by
  obtain ⟨ds, rfl, g0⟩ := HasTy_st h
  obtain ⟨d0, r0, rfl, h0, g1⟩ := HasTys_cons g0
  obtain ⟨v0, rfl, k0⟩ := int_dec h0
  obtain ⟨d1, r1, rfl, h1, g2⟩ := HasTys_cons g1
  obtain ⟨v1, rfl, k1⟩ := int_dec h1
  cases HasTys_nil g2
  exact ⟨⟨v0, v1⟩, rfl, k0, k1⟩

structure ItemV where
  code : ByteArray
  unit : ByteArray
  kind : Int
  lead : Int
  rule : Int
  size : Int
  safety : Int
  scrap : Int
def ItemV.dat (x : ItemV) : D := .agg [sD x.code, sD x.unit, iD x.kind, iD x.lead, iD x.rule, iD x.size, iD x.safety, iD x.scrap]
def ItemV.ok (x : ItemV) : Prop := okS x.code ∧ okS x.unit ∧ okI x.kind ∧ okI x.lead ∧ okI x.rule ∧ okI x.size ∧ okI x.safety ∧ okI x.scrap
def ItemV.wt (x : ItemV) : Nat := ByteArray.size x.code + ByteArray.size x.unit
abbrev ItemV.ty : TY := .st [.str, .str, .int, .int, .int, .int, .int, .int]
def ItemV.z : ItemV := ⟨⟨#[]⟩, ⟨#[]⟩, 0, 0, 0, 0, 0, 0⟩
theorem ItemV.dec {x : D} (h : HasTy ItemV.ty x) : ∃ v : ItemV, x = v.dat ∧ v.ok := by
  obtain ⟨ds, rfl, g0⟩ := HasTy_st h
  obtain ⟨d0, r0, rfl, h0, g1⟩ := HasTys_cons g0
  obtain ⟨v0, rfl, k0⟩ := str_dec h0
  obtain ⟨d1, r1, rfl, h1, g2⟩ := HasTys_cons g1
  obtain ⟨v1, rfl, k1⟩ := str_dec h1
  obtain ⟨d2, r2, rfl, h2, g3⟩ := HasTys_cons g2
  obtain ⟨v2, rfl, k2⟩ := int_dec h2
  obtain ⟨d3, r3, rfl, h3, g4⟩ := HasTys_cons g3
  obtain ⟨v3, rfl, k3⟩ := int_dec h3
  obtain ⟨d4, r4, rfl, h4, g5⟩ := HasTys_cons g4
  obtain ⟨v4, rfl, k4⟩ := int_dec h4
  obtain ⟨d5, r5, rfl, h5, g6⟩ := HasTys_cons g5
  obtain ⟨v5, rfl, k5⟩ := int_dec h5
  obtain ⟨d6, r6, rfl, h6, g7⟩ := HasTys_cons g6
  obtain ⟨v6, rfl, k6⟩ := int_dec h6
  obtain ⟨d7, r7, rfl, h7, g8⟩ := HasTys_cons g7
  obtain ⟨v7, rfl, k7⟩ := int_dec h7
  cases HasTys_nil g8
  exact ⟨⟨v0, v1, v2, v3, v4, v5, v6, v7⟩, rfl, k0, k1, k2, k3, k4, k5, k6, k7⟩

structure DemandV where
  id : Int
  item : ByteArray
  quantity : Int
  day : Int
  rank : Int
def DemandV.dat (x : DemandV) : D := .agg [iD x.id, sD x.item, iD x.quantity, iD x.day, iD x.rank]
def DemandV.ok (x : DemandV) : Prop := okI x.id ∧ okS x.item ∧ okI x.quantity ∧ okI x.day ∧ okI x.rank
def DemandV.wt (x : DemandV) : Nat := ByteArray.size x.item
abbrev DemandV.ty : TY := .st [.int, .str, .int, .int, .int]
def DemandV.z : DemandV := ⟨0, ⟨#[]⟩, 0, 0, 0⟩
theorem DemandV.dec {x : D} (h : HasTy DemandV.ty x) : ∃ v : DemandV, x = v.dat ∧ v.ok := by
  obtain ⟨ds, rfl, g0⟩ := HasTy_st h
  obtain ⟨d0, r0, rfl, h0, g1⟩ := HasTys_cons g0
  obtain ⟨v0, rfl, k0⟩ := int_dec h0
  obtain ⟨d1, r1, rfl, h1, g2⟩ := HasTys_cons g1
  obtain ⟨v1, rfl, k1⟩ := str_dec h1
  obtain ⟨d2, r2, rfl, h2, g3⟩ := HasTys_cons g2
  obtain ⟨v2, rfl, k2⟩ := int_dec h2
  obtain ⟨d3, r3, rfl, h3, g4⟩ := HasTys_cons g3
  obtain ⟨v3, rfl, k3⟩ := int_dec h3
  obtain ⟨d4, r4, rfl, h4, g5⟩ := HasTys_cons g4
  obtain ⟨v4, rfl, k4⟩ := int_dec h4
  cases HasTys_nil g5
  exact ⟨⟨v0, v1, v2, v3, v4⟩, rfl, k0, k1, k2, k3, k4⟩

structure RoutingV where
  item : ByteArray
  steps : List StepV
def RoutingV.dat (x : RoutingV) : D := .agg [sD x.item, lD StepV.dat x.steps]
def RoutingV.ok (x : RoutingV) : Prop := okS x.item ∧ okL StepV.ok x.steps
def RoutingV.wt (x : RoutingV) : Nat := ByteArray.size x.item + wtL StepV.wt x.steps
abbrev RoutingV.ty : TY := .st [.str, .sl StepV.ty]
def RoutingV.z : RoutingV := ⟨⟨#[]⟩, []⟩
theorem RoutingV.dec {x : D} (h : HasTy RoutingV.ty x) : ∃ v : RoutingV, x = v.dat ∧ v.ok := by
  obtain ⟨ds, rfl, g0⟩ := HasTy_st h
  obtain ⟨d0, r0, rfl, h0, g1⟩ := HasTys_cons g0
  obtain ⟨v0, rfl, k0⟩ := str_dec h0
  obtain ⟨d1, r1, rfl, h1, g2⟩ := HasTys_cons g1
  obtain ⟨v1, rfl, k1⟩ := sl_dec (fun _ => StepV.dec) h1
  cases HasTys_nil g2
  exact ⟨⟨v0, v1⟩, rfl, k0, k1⟩

structure PickV where
  option : ByteArray
  value : ByteArray
def PickV.dat (x : PickV) : D := .agg [sD x.option, sD x.value]
def PickV.ok (x : PickV) : Prop := okS x.option ∧ okS x.value
def PickV.wt (x : PickV) : Nat := ByteArray.size x.option + ByteArray.size x.value
abbrev PickV.ty : TY := .st [.str, .str]
def PickV.z : PickV := ⟨⟨#[]⟩, ⟨#[]⟩⟩
theorem PickV.dec {x : D} (h : HasTy PickV.ty x) : ∃ v : PickV, x = v.dat ∧ v.ok := by
  obtain ⟨ds, rfl, g0⟩ := HasTy_st h
  obtain ⟨d0, r0, rfl, h0, g1⟩ := HasTys_cons g0
  obtain ⟨v0, rfl, k0⟩ := str_dec h0
  obtain ⟨d1, r1, rfl, h1, g2⟩ := HasTys_cons g1
  obtain ⟨v1, rfl, k1⟩ := str_dec h1
  cases HasTys_nil g2
  exact ⟨⟨v0, v1⟩, rfl, k0, k1⟩

structure NodeV where
  kind : Int
  option : ByteArray
  value : ByteArray
def NodeV.dat (x : NodeV) : D := .agg [iD x.kind, sD x.option, sD x.value]
def NodeV.ok (x : NodeV) : Prop := okI x.kind ∧ okS x.option ∧ okS x.value
def NodeV.wt (x : NodeV) : Nat := ByteArray.size x.option + ByteArray.size x.value
abbrev NodeV.ty : TY := .st [.int, .str, .str]
def NodeV.z : NodeV := ⟨0, ⟨#[]⟩, ⟨#[]⟩⟩
theorem NodeV.dec {x : D} (h : HasTy NodeV.ty x) : ∃ v : NodeV, x = v.dat ∧ v.ok := by
  obtain ⟨ds, rfl, g0⟩ := HasTy_st h
  obtain ⟨d0, r0, rfl, h0, g1⟩ := HasTys_cons g0
  obtain ⟨v0, rfl, k0⟩ := int_dec h0
  obtain ⟨d1, r1, rfl, h1, g2⟩ := HasTys_cons g1
  obtain ⟨v1, rfl, k1⟩ := str_dec h1
  obtain ⟨d2, r2, rfl, h2, g3⟩ := HasTys_cons g2
  obtain ⟨v2, rfl, k2⟩ := str_dec h2
  cases HasTys_nil g3
  exact ⟨⟨v0, v1, v2⟩, rfl, k0, k1, k2⟩

structure OptV where
  name : ByteArray
  values : List ByteArray
def OptV.dat (x : OptV) : D := .agg [sD x.name, lD sD x.values]
def OptV.ok (x : OptV) : Prop := okS x.name ∧ okL okS x.values
def OptV.wt (x : OptV) : Nat := ByteArray.size x.name + wtL ByteArray.size x.values
abbrev OptV.ty : TY := .st [.str, .sl .str]
def OptV.z : OptV := ⟨⟨#[]⟩, []⟩
theorem OptV.dec {x : D} (h : HasTy OptV.ty x) : ∃ v : OptV, x = v.dat ∧ v.ok := by
  obtain ⟨ds, rfl, g0⟩ := HasTy_st h
  obtain ⟨d0, r0, rfl, h0, g1⟩ := HasTys_cons g0
  obtain ⟨v0, rfl, k0⟩ := str_dec h0
  obtain ⟨d1, r1, rfl, h1, g2⟩ := HasTys_cons g1
  obtain ⟨v1, rfl, k1⟩ := sl_dec (fun _ => str_dec) h1
  cases HasTys_nil g2
  exact ⟨⟨v0, v1⟩, rfl, k0, k1⟩

structure ModelV where
  options : List OptV
  rules : List (List NodeV)
def ModelV.dat (x : ModelV) : D := .agg [lD OptV.dat x.options, lD (lD NodeV.dat) x.rules]
def ModelV.ok (x : ModelV) : Prop := okL OptV.ok x.options ∧ okL (okL NodeV.ok) x.rules
def ModelV.wt (x : ModelV) : Nat := wtL OptV.wt x.options + wtL (wtL NodeV.wt) x.rules
abbrev ModelV.ty : TY := .st [.sl OptV.ty, .sl (.sl NodeV.ty)]
def ModelV.z : ModelV := ⟨[], []⟩
theorem ModelV.dec {x : D} (h : HasTy ModelV.ty x) : ∃ v : ModelV, x = v.dat ∧ v.ok := by
  obtain ⟨ds, rfl, g0⟩ := HasTy_st h
  obtain ⟨d0, r0, rfl, h0, g1⟩ := HasTys_cons g0
  obtain ⟨v0, rfl, k0⟩ := sl_dec (fun _ => OptV.dec) h0
  obtain ⟨d1, r1, rfl, h1, g2⟩ := HasTys_cons g1
  obtain ⟨v1, rfl, k1⟩ := sl_dec (fun _ hx => sl_dec (fun _ => NodeV.dec) hx) h1
  cases HasTys_nil g2
  exact ⟨⟨v0, v1⟩, rfl, k0, k1⟩

structure LineV where
  parent : ByteArray
  part : ByteArray
  quantity : Int
  start : Int
  stop : Int
  when : List NodeV
def LineV.dat (x : LineV) : D := .agg [sD x.parent, sD x.part, iD x.quantity, iD x.start, iD x.stop, lD NodeV.dat x.when]
def LineV.ok (x : LineV) : Prop := okS x.parent ∧ okS x.part ∧ okI x.quantity ∧ okI x.start ∧ okI x.stop ∧ okL NodeV.ok x.when
def LineV.wt (x : LineV) : Nat := ByteArray.size x.parent + ByteArray.size x.part + wtL NodeV.wt x.when
abbrev LineV.ty : TY := .st [.str, .str, .int, .int, .int, .sl NodeV.ty]
def LineV.z : LineV := ⟨⟨#[]⟩, ⟨#[]⟩, 0, 0, 0, []⟩
theorem LineV.dec {x : D} (h : HasTy LineV.ty x) : ∃ v : LineV, x = v.dat ∧ v.ok := by
  obtain ⟨ds, rfl, g0⟩ := HasTy_st h
  obtain ⟨d0, r0, rfl, h0, g1⟩ := HasTys_cons g0
  obtain ⟨v0, rfl, k0⟩ := str_dec h0
  obtain ⟨d1, r1, rfl, h1, g2⟩ := HasTys_cons g1
  obtain ⟨v1, rfl, k1⟩ := str_dec h1
  obtain ⟨d2, r2, rfl, h2, g3⟩ := HasTys_cons g2
  obtain ⟨v2, rfl, k2⟩ := int_dec h2
  obtain ⟨d3, r3, rfl, h3, g4⟩ := HasTys_cons g3
  obtain ⟨v3, rfl, k3⟩ := int_dec h3
  obtain ⟨d4, r4, rfl, h4, g5⟩ := HasTys_cons g4
  obtain ⟨v4, rfl, k4⟩ := int_dec h4
  obtain ⟨d5, r5, rfl, h5, g6⟩ := HasTys_cons g5
  obtain ⟨v5, rfl, k5⟩ := sl_dec (fun _ => NodeV.dec) h5
  cases HasTys_nil g6
  exact ⟨⟨v0, v1, v2, v3, v4, v5⟩, rfl, k0, k1, k2, k3, k4, k5⟩

structure NeedV where
  code : ByteArray
  quantity : Int
def NeedV.dat (x : NeedV) : D := .agg [sD x.code, iD x.quantity]
def NeedV.ok (x : NeedV) : Prop := okS x.code ∧ okI x.quantity
def NeedV.wt (x : NeedV) : Nat := ByteArray.size x.code
abbrev NeedV.ty : TY := .st [.str, .int]
def NeedV.z : NeedV := ⟨⟨#[]⟩, 0⟩
theorem NeedV.dec {x : D} (h : HasTy NeedV.ty x) : ∃ v : NeedV, x = v.dat ∧ v.ok := by
  obtain ⟨ds, rfl, g0⟩ := HasTy_st h
  obtain ⟨d0, r0, rfl, h0, g1⟩ := HasTys_cons g0
  obtain ⟨v0, rfl, k0⟩ := str_dec h0
  obtain ⟨d1, r1, rfl, h1, g2⟩ := HasTys_cons g1
  obtain ⟨v1, rfl, k1⟩ := int_dec h1
  cases HasTys_nil g2
  exact ⟨⟨v0, v1⟩, rfl, k0, k1⟩

structure ChangeV where
  day : Int
  parent : ByteArray
  old : ByteArray
  new : ByteArray
  quantity : Int
def ChangeV.dat (x : ChangeV) : D := .agg [iD x.day, sD x.parent, sD x.old, sD x.new, iD x.quantity]
def ChangeV.ok (x : ChangeV) : Prop := okI x.day ∧ okS x.parent ∧ okS x.old ∧ okS x.new ∧ okI x.quantity
def ChangeV.wt (x : ChangeV) : Nat := ByteArray.size x.parent + ByteArray.size x.old + ByteArray.size x.new
abbrev ChangeV.ty : TY := .st [.int, .str, .str, .str, .int]
def ChangeV.z : ChangeV := ⟨0, ⟨#[]⟩, ⟨#[]⟩, ⟨#[]⟩, 0⟩
theorem ChangeV.dec {x : D} (h : HasTy ChangeV.ty x) : ∃ v : ChangeV, x = v.dat ∧ v.ok := by
  obtain ⟨ds, rfl, g0⟩ := HasTy_st h
  obtain ⟨d0, r0, rfl, h0, g1⟩ := HasTys_cons g0
  obtain ⟨v0, rfl, k0⟩ := int_dec h0
  obtain ⟨d1, r1, rfl, h1, g2⟩ := HasTys_cons g1
  obtain ⟨v1, rfl, k1⟩ := str_dec h1
  obtain ⟨d2, r2, rfl, h2, g3⟩ := HasTys_cons g2
  obtain ⟨v2, rfl, k2⟩ := str_dec h2
  obtain ⟨d3, r3, rfl, h3, g4⟩ := HasTys_cons g3
  obtain ⟨v3, rfl, k3⟩ := str_dec h3
  obtain ⟨d4, r4, rfl, h4, g5⟩ := HasTys_cons g4
  obtain ⟨v4, rfl, k4⟩ := int_dec h4
  cases HasTys_nil g5
  exact ⟨⟨v0, v1, v2, v3, v4⟩, rfl, k0, k1, k2, k3, k4⟩

end Go.DL
