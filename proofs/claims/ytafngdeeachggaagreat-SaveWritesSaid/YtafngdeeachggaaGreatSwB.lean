/- vireoref27.Check: what it does. -/
import Derived.Test.YtafngdeeachggaaGreatSwA
set_option linter.unusedVariables false
set_option linter.unusedSimpArgs false
namespace Sw
open Go Go.Proofs Vx

/-- Bits put together: at one place, at all places. -/
def mixB (a b : Int) : Int := (IntKind.i64.wrap (a + b)).tmod 2
def mixL : List Int → List Int → List Int
  | a :: l, b :: r => mixB a b :: mixL l r
  | l, _ => l
def checkStep (w b : Int) : Int := (IntKind.u64.wrap (wordB (mixL (bitsB 64 w) (bitsB 64 (IntKind.u64.wrap b))) * 16777619)).tmod 4294967296
def checkB (l : List Int) : Int := l.foldl checkStep 2166136261
structure MixG where
  lo : List Int
  hi : List Int
  xs : List Int
  vs : List Value
  us : List Value
  ws : List Value
  i : Nat
  G : Nat → Option Obj
structure MixX where
  k : Nat
  lo : List Int
def MixInv (g : MixG) (x : MixX) : Prop := x.k ≤ 64 ∧ x.lo.length = 64 ∧ g.lo.length = 64 ∧ g.hi.length = 64 ∧ x.lo = mixL (g.lo.take x.k) (g.hi.take x.k) ++ g.lo.drop x.k
def mixLoop (g : MixG) : LoopS where
  X := MixX
  f := 3
  m := 3
  tmps x := [(0, obs 0 g.xs g.vs), (5, obs 1 x.lo g.us), (6, obs 2 g.hi g.ws), (7, .int .i64 (.v x.k)), (4, .int .i64 (.v g.i))]
  heap x := [(0, obh .u8 5 g.xs g.vs), (1, obh .i64 3 x.lo g.us), (2, obh .i64 3 g.hi g.ws)]
  G x := g.G
  inv x := MixInv g x
  mea x := 64 - x.k
def CheckInv (g : ListX) (x : IW) : Prop := x.i ≤ g.xs.length ∧ x.w = checkB (g.xs.take x.i) ∧ 0 ≤ x.w ∧ x.w < 4294967296
def checkL (g : ListX) : LoopS where
  X := IW
  f := 1
  m := 1
  tmps x := [(0, obs 0 g.xs g.vs), (4, .int .i64 (.v x.i)), (3, .int .u64 (.v x.w))]
  heap x := [(0, obh .u8 5 g.xs g.vs)]
  G x := g.G
  inv x := CheckInv g x
  mea x := g.xs.length - x.i
def CheckPre (x : ListX) : Prop := x.xs.length ≤ 1000000100 ∧ ∀ b ∈ x.xs, 0 ≤ b ∧ b < 256
def conCheck : Con where
  X := ListX
  n := 1
  args x := [obs 0 x.xs x.vs]
  heap x := [(0, obh .u8 5 x.xs x.vs)]
  G x := x.G
  pre x := CheckPre x
  Y := Int
  m := 1
  post x y := y = checkB x.xs
  res _ y := .int .u64 (.v y)
  heap' x _ := [(0, obh .u8 5 x.xs x.vs)]
  G' x _ := x.G
def loop48 (b : Nat) : LoopT := bif Nat.beq b 0 then famL checkL else famL mixLoop
def call48 (f : Nat) : SpecT := bif Nat.beq f 77 then conBits.spec else bif Nat.beq f 78 then conWord.spec else noSpec
noncomputable def body48 : SpecT := body call48 loop48 48
end Sw
