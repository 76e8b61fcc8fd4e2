/- Records as arguments; vireolaw27.few, kinds, ref. -/
import Derived.Test.YtafngdeeachggaaGreatSwB
set_option linter.unusedVariables false
set_option linter.unusedSimpArgs false
namespace Sw
open Go Go.Proofs Vx

/-- An event: its kind, its number, where its bytes lie, how many, and which. -/
structure Ev where
  k : Int
  a : Int
  p : Option Addr
  l : Nat
  c : Nat
  d : List Int
def evCells (e : Ev) : List Value := [.int .i64 e.k, .int .u64 e.a, .slice e.p e.l e.c]
def evsCells : List Ev → List Value
  | [] => []
  | e :: r => evCells e ++ evsCells r
def IsByte (b : Int) : Prop := 0 ≤ b ∧ b < 256
def IsU64 (n : Int) : Prop := 0 ≤ n ∧ n < 18446744073709551616
/-- A list of bytes that lies somewhere and stays. -/
structure Bs (G : Nat → Option Obj) (p : Option Addr) (l c : Nat) (d : List Int) : Prop where
  len : d.length = l
  cap : l ≤ c
  at_ : RdS G p l (d.map (.int .u8))
  byte : ∀ b ∈ d, IsByte b
structure EvOk (G : Nat → Option Obj) (e : Ev) : Prop where
  k : -9223372036854775808 ≤ e.k ∧ e.k < 9223372036854775808
  a : IsU64 e.a
  d : Bs G e.p e.l e.c e.d
structure RecX where
  ram : Int
  sec : Int
  locked : Bool
  dp : Option Addr
  dl : Nat
  dc : Nat
  dd : List Int
  ip : Option Addr
  il : Nat
  ic : Nat
  id : List Int
  name : ByteArray
  ep : Option Addr
  el : Nat
  ec : Nat
  evs : List Ev
  G : Nat → Option Obj
structure RecOk (x : RecX) : Prop where
  ram : IsU64 x.ram
  sec : IsU64 x.sec
  disk : Bs x.G x.dp x.dl x.dc x.dd
  image : Bs x.G x.ip x.il x.ic x.id
  evLen : x.evs.length = x.el
  evAt : RdS x.G x.ep x.el (evsCells x.evs)
  evs : ∀ e ∈ x.evs, EvOk x.G e
  name : x.name.size < 9223372036854775808
  evBig : x.el < 9223372036854775808
/-- As an argument: RAM, sectors, locked, disk, image, name, events. -/
def recRow (x : RecX) : SV :=
  .cons (.int .u64 (.v x.ram)) (.cons (.int .u64 (.v x.sec)) (.cons (.bool (.v x.locked)) (.cons (.gsl x.dp (.v x.dl) (.v x.dc))
    (.cons (.gsl x.ip (.v x.il) (.v x.ic)) (.cons (.str (.v x.name)) (.cons (.gsl x.ep (.v x.el) (.v x.ec)) .nil))))))

structure RecI where
  i : Nat
def FewInv (g : RecX) (x : RecI) : Prop := x.i ≤ g.el ∧ RecOk g ∧ ∀ (j : Nat) (e : Ev), g.evs[j]? = some e → j < x.i → e.l ≤ 200
def fewL (g : RecX) : LoopS where
  X := RecI
  f := 1
  m := 1
  tmps x := [(1, .ptr 0 (.lit 0)), (3, .int .i64 (.v x.i))]
  heap x := [(0, .cells (recRow g) 28 false)]
  G x := g.G
  inv x := FewInv g x
  mea x := g.el - x.i
def Few (x : RecX) : Prop := x.il ≤ 3000 ∧ x.dl ≤ 3000 ∧ x.name.size ≤ 100 ∧ x.el ≤ 14 ∧ ∀ e ∈ x.evs, e.l ≤ 200
def conFew : Con where
  X := RecX
  n := 0
  args x := [.agg (recRow x)]
  heap x := []
  G x := x.G
  pre x := RecOk x
  Y := Bool
  m := 0
  post x y := y = true → Few x
  res _ y := .bool (.v y)
  heap' x _ := []
  G' x _ := x.G
noncomputable def body11 : SpecT := body (fun _ => noSpec) (fun _ => famL fewL) 11

def KindsInv (g : RecX) (x : RecI) : Prop := x.i ≤ g.el ∧ RecOk g ∧ ∀ (j : Nat) (e : Ev), g.evs[j]? = some e → j < x.i → IsByte e.k
def kindsL (g : RecX) : LoopS where
  X := RecI
  f := 1
  m := 1
  tmps x := [(1, .ptr 0 (.lit 0)), (3, .int .i64 (.v x.i))]
  heap x := [(0, .cells (recRow g) 28 false)]
  G x := g.G
  inv x := KindsInv g x
  mea x := g.el - x.i
def conKinds : Con where
  X := RecX
  n := 0
  args x := [.agg (recRow x)]
  heap x := []
  G x := x.G
  pre x := RecOk x
  Y := Bool
  m := 0
  post x y := y = true → ∀ e ∈ x.evs, IsByte e.k
  res _ y := .bool (.v y)
  heap' x _ := []
  G' x _ := x.G
noncomputable def body12 : SpecT := body (fun _ => noSpec) (fun _ => famL kindsL) 12
end Sw
