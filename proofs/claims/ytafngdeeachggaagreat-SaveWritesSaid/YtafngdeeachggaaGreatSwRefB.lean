/- vireoref27.Bytes: what it does. -/
import Derived.Test.YtafngdeeachggaaGreatSwBytes
set_option linter.unusedVariables false
set_option linter.unusedSimpArgs false
namespace Sw
open Go Go.Proofs Vx

def ref4 (w : Int) : List Int := [IntKind.u8.wrap (w.tmod 256), IntKind.u8.wrap ((IntKind.u64.wrap (w.tdiv 256)).tmod 256),
  IntKind.u8.wrap ((IntKind.u64.wrap ((IntKind.u64.wrap (w.tdiv 256)).tdiv 256)).tmod 256),
  IntKind.u8.wrap ((IntKind.u64.wrap ((IntKind.u64.wrap ((IntKind.u64.wrap (w.tdiv 256)).tdiv 256)).tdiv 256)).tmod 256)]
def refL (g : RecX) : LoopS where
  X := LoopX
  f := 1
  m := 2
  tmps x := [(1, .ptr 0 (.lit 0)), (3, obs 1 x.xs x.vs), (4, .int .i64 (.v x.i))]
  heap x := [(0, .cells (recRow g) 35 false), (1, obh .u8 5 x.xs x.vs)]
  G x := g.G
  inv x := BytesInv g x
  mea x := g.el - x.i
def conRef : Con where
  X := RecX
  n := 0
  args x := [.agg (recRow x)]
  heap x := []
  G x := x.G
  pre x := BytesPre x
  Y := OutY
  m := 1
  post x y := y.xs = recB x ++ ref4 (checkB (recB x))
  res _ y := obs 0 y.xs y.vs
  heap' _ y := [(0, obh .u8 5 y.xs y.vs)]
  G' x _ := x.G
noncomputable def lit45 : Nat → SpecT
  | 0 => noSpec
  | d + 1 => body (fun f => bif Nat.beq f 45 then lit45 d else noSpec) (fun _ bx => iter bx 0) 45
noncomputable def some45 : SpecT := fun args hp K => match args with
  | [.nilslice, n] => lit45 8 [.nilslice, n] hp K
  | args => (conNumR refK).spec args hp K
noncomputable def some46 : SpecT := fun args hp K => match args with
  | [o, .gsl p l c] => conTextG.spec [o, .gsl p l c] hp K
  | args => conTextS.spec args hp K
noncomputable def call15 (f : Nat) : SpecT :=
  bif Nat.beq f 45 then some45 else
  bif Nat.beq f 46 then some46 else
  bif Nat.beq f 47 then body (fun _ => noSpec) (fun _ bx => iter bx 12) 47 else
  bif Nat.beq f 48 then conCheck.spec else noSpec
noncomputable def body15 : SpecT := body call15 (fun _ => famL refL) 15
end Sw
