/- save.number, vireoref27.number: what they do. -/
import Derived.Test.YtafngdeeachggaaGreatSwBase
set_option linter.unusedVariables false
set_option linter.unusedSimpArgs false
namespace Sw
open Go Go.Proofs Vx

/-- A number in pieces of seven bits. -/
def numB : Nat → Nat → List Int
  | 0, _ => []
  | k + 1, n => if n < 128 then [(n : Int)] else ((n % 128 + 128 : Nat) : Int) :: numB k (n / 128)

structure OutX where
  xs : List Int
  vs : List Value
  n : Int
  G : Nat → Option Obj
def NumPre (x : OutX) : Prop := 0 ≤ x.n ∧ x.n < 18446744073709551616 ∧ x.xs.length ≤ 1000000000
structure NumG where
  goal : List Int
  G : Nat → Option Obj
def NumInv (g : NumG) (x : OutX) : Prop := x.xs ++ numB 10 x.n.toNat = g.goal ∧ x.G = g.G ∧ 0 ≤ x.n ∧ x.n < 18446744073709551616 ∧ g.goal.length ≤ 1000000010
def numL (g : NumG) : LoopS where
  X := OutX
  f := 0
  m := 1
  tmps x := [(0, obs 0 x.xs x.vs), (1, .int .u64 (.v x.n))]
  heap x := [(0, obh .u8 5 x.xs x.vs)]
  G x := x.G
  inv x := NumInv g x
  mea x := x.n.toNat
structure OutY where
  xs : List Int
  vs : List Value
def conNum : Con where
  X := OutX
  n := 1
  args x := [obs 0 x.xs x.vs, .int .u64 (.v x.n)]
  heap x := [(0, obh .u8 5 x.xs x.vs)]
  G x := x.G
  pre x := NumPre x
  Y := OutY
  m := 2
  post x y := y.xs = x.xs ++ numB 10 x.n.toNat
  res _ y := obs 1 y.xs y.vs
  heap' _ y := [(1, obh .u8 5 y.xs y.vs)]
  G' x _ := x.G
noncomputable def body40 : SpecT := body (fun _ => noSpec) (fun _ => famL numL) 40
end Sw
