/- save.text, save.flag, vireoref27.text: what they do. -/
import Derived.Test.YtafngdeeachggaaGreatSwRec
set_option linter.unusedVariables false
set_option linter.unusedSimpArgs false
namespace Sw
open Go Go.Proofs Vx

def textB (d : List Int) : List Int := numB 10 d.length ++ d
structure FlagX where
  b : Bool
  G : Nat → Option Obj
def conFlag : Con where
  X := FlagX
  n := 0
  args x := [.bool (.v x.b)]
  heap x := []
  G x := x.G
  pre x := True
  Y := Int
  m := 0
  post x y := y = cond x.b 1 0
  res _ y := .int .u64 (.v y)
  heap' x _ := []
  G' x _ := x.G
noncomputable def body41 : SpecT := body (fun _ => noSpec) (fun _ bx => iter bx 0) 41

/-- Bytes that stay, behind what one owns. -/
structure TextX where
  xs : List Int
  vs : List Value
  p : Option Addr
  l : Nat
  c : Nat
  d : List Int
  G : Nat → Option Obj
def TextPre (x : TextX) : Prop := x.xs.length ≤ 1000000 ∧ x.l ≤ 1000000 ∧ Bs x.G x.p x.l x.c x.d
def conTextG : Con where
  X := TextX
  n := 1
  args x := [obs 0 x.xs x.vs, .gsl x.p (.v x.l) (.v x.c)]
  heap x := [(0, obh .u8 5 x.xs x.vs)]
  G x := x.G
  pre x := TextPre x
  Y := OutY
  m := 2
  post x y := y.xs = x.xs ++ textB x.d
  res _ y := obs 1 y.xs y.vs
  heap' _ y := [(1, obh .u8 5 y.xs y.vs)]
  G' x _ := x.G
/-- A text's bytes (no cell behind them), behind what one owns. -/
structure TextY where
  xs : List Int
  vs : List Value
  d : List Int
  ws : List Value
  G : Nat → Option Obj
def TextPreS (x : TextY) : Prop := x.xs.length ≤ 1000000 ∧ x.d.length ≤ 1000000
def conTextS : Con where
  X := TextY
  n := 2
  args x := [obs 0 x.xs x.vs, obs 1 x.d x.ws]
  heap x := [(0, obh .u8 5 x.xs x.vs), (1, .cells (.cons (.run .u8 (.v x.d.length) (.list x.d)) (.cons (.blob (.v x.ws.length) x.ws) .nil)) 5 true)]
  G x := x.G
  pre x := TextPreS x
  Y := OutY
  m := 3
  post x y := y.xs = x.xs ++ textB x.d
  res _ y := obs 2 y.xs y.vs
  heap' _ y := [(2, obh .u8 5 y.xs y.vs)]
  G' x _ := x.G
noncomputable def call42 (f : Nat) : SpecT := bif Nat.beq f 40 then conNum.spec else noSpec
noncomputable def body42 : SpecT := body call42 (fun _ bx => iter bx 0) 42
def refK : Nat := 18446744073709551616
noncomputable def call46 (f : Nat) : SpecT := bif Nat.beq f 45 then (conNumR refK).spec else noSpec
noncomputable def body46 : SpecT := body call46 (fun _ bx => iter bx 0) 46
end Sw
