/- save.Bytes, vireoref27.Bytes: what they do. -/
import Derived.Test.YtafngdeeachggaaGreatSwText
set_option linter.unusedVariables false
set_option linter.unusedSimpArgs false
namespace Sw
open Go Go.Proofs Vx

def evB (e : Ev) : List Int := numB 10 (IntKind.u64.wrap e.k).toNat ++ (numB 10 e.a.toNat ++ textB e.d)
def evsB : List Ev → List Int
  | [] => []
  | e :: r => evB e ++ evsB r
def headB (x : RecX) : List Int :=
  [246, 210, 201, 171, 246, 13] ++ (numB 10 x.ram.toNat ++ (numB 10 x.sec.toNat ++ (numB 10 (cond x.locked 1 0) ++ (textB x.dd ++ (textB x.id ++ (textB (bytesOf x.name) ++ numB 10 x.el))))))
def recB (x : RecX) : List Int := headB x ++ evsB x.evs
/-- Not too long. -/
def Small (x : RecX) : Prop := x.il ≤ 3000 ∧ x.dl ≤ 3000 ∧ x.name.size ≤ 3000 ∧ x.el ≤ 3000 ∧ (∀ e ∈ x.evs, e.l ≤ 3000) ∧ (recB x).length ≤ 20000
def BytesPre (x : RecX) : Prop := RecOk x ∧ Small x ∧ ∀ e ∈ x.evs, IsByte e.k

structure LoopX where
  xs : List Int
  vs : List Value
  i : Nat
def BytesInv (g : RecX) (x : LoopX) : Prop := x.xs ++ evsB (g.evs.drop x.i) = recB g ∧ x.i ≤ g.el ∧ BytesPre g
def bytesL (g : RecX) : LoopS where
  X := LoopX
  f := 0
  m := 1
  tmps x := [(3, obs 0 x.xs x.vs), (42, .gsl g.ep (.v g.el) (.v g.ec)), (43, .int .i64 (.v g.el)), (44, .int .i64 (.v x.i))]
  heap x := [(0, obh .u8 5 x.xs x.vs)]
  G x := g.G
  inv x := BytesInv g x
  mea x := g.el - x.i
def shr8 (w : Int) : Int := shft .shr .u64 w 8
def word4 (w : Int) : List Int := [IntKind.u8.wrap w, IntKind.u8.wrap (shr8 w), IntKind.u8.wrap (shr8 (shr8 w)), IntKind.u8.wrap (shr8 (shr8 (shr8 w)))]
def conBytes : Con where
  X := RecX
  n := 0
  args x := [.agg (recRow x)]
  heap x := []
  G x := x.G
  pre x := BytesPre x
  Y := OutY
  m := 1
  post x y := y.xs = recB x ++ word4 (sumB (recB x))
  res _ y := obs 0 y.xs y.vs
  heap' _ y := [(0, obh .u8 5 y.xs y.vs)]
  G' x _ := x.G
structure PieceX where
  r : RecX
  xs : List Int
  vs : List Value
def PiecePre (x : PieceX) : Prop := BytesPre x.r ∧ x.xs.length ≤ 1000
def textP : PieceS where
  X := PieceX
  n := 2
  tin x := [(1, .ptr 0 (.lit 0)), (3, obs 1 x.xs x.vs)]
  heap x := [(0, .cells (recRow x.r) 28 false), (1, obh .u8 5 x.xs x.vs)]
  G x := x.r.G
  pre x := PiecePre x
  Y := OutY
  m := 3
  post x y := y.xs = x.xs ++ (textB x.r.dd ++ (textB x.r.id ++ textB (bytesOf x.r.name)))
  tout x y := [(1, .ptr 0 (.lit 0)), (3, obs 2 y.xs y.vs)]
  heap' x y := [(0, .cells (recRow x.r) 28 false), (2, obh .u8 5 y.xs y.vs)]
  G' x _ := x.r.G
noncomputable def some40 : SpecT := fun args hp K => match args with
  | [.nilslice, n] => body (fun _ => noSpec) (fun _ bx => iter bx 12) 40 [.nilslice, n] hp K
  | args => conNum.spec args hp K
noncomputable def some42 : SpecT := fun args hp K => match args with
  | [o, .gsl p l c] => conTextG.spec [o, .gsl p l c] hp K
  | args => conTextS.spec args hp K
noncomputable def call14 (f : Nat) : SpecT :=
  bif Nat.beq f 40 then some40 else
  bif Nat.beq f 41 then conFlag.spec else
  bif Nat.beq f 42 then some42 else
  bif Nat.beq f 43 then body (fun _ => noSpec) (fun _ bx => iter bx 12) 43 else
  bif Nat.beq f 44 then conSum.spec else noSpec
def ways14 : Ways where
  loop _ := famL bytesL
  reg i := bif Nat.beq i 3 then textP.twin else fun bx => bx
noncomputable def body14 : SpecT := bodyW call14 ways14 14
end Sw
