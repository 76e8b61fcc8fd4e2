/- save.sum, vireoref27.number, vireoref01.Bits and Word, vireoref02.Bytes: what they do. -/
import Derived.Test.YtafngdeeachggaaGreatSwNum
set_option linter.unusedVariables false
set_option linter.unusedSimpArgs false
namespace Sw
open Go Go.Proofs Vx

/-! ### save.sum -/
def stepB (w b : Int) : Int := Vx.bits .and .u64 (IntKind.u64.wrap (Vx.bits .xor .u64 w (IntKind.u64.wrap b) * 16777619)) 4294967295
def sumB (l : List Int) : Int := l.foldl stepB 2166136261
structure ListX where
  xs : List Int
  vs : List Value
  G : Nat → Option Obj
structure IW where
  i : Nat
  w : Int
def SumInv (g : ListX) (x : IW) : Prop := x.i ≤ g.xs.length ∧ x.w = sumB (g.xs.take x.i)
def sumL (g : ListX) : LoopS where
  X := IW
  f := 1
  m := 1
  tmps x := [(6, obs 0 g.xs g.vs), (7, .int .i64 (.v g.xs.length)), (8, .int .i64 (.v x.i)), (3, .int .u64 (.v x.w))]
  heap x := [(0, obh .u8 5 g.xs g.vs)]
  G x := g.G
  inv x := SumInv g x
  mea x := g.xs.length - x.i
def SumPre (x : ListX) : Prop := x.xs.length ≤ 1000000100
def conSum : Con where
  X := ListX
  n := 1
  args x := [obs 0 x.xs x.vs]
  heap x := [(0, obh .u8 5 x.xs x.vs)]
  G x := x.G
  pre x := SumPre x
  Y := Int
  m := 1
  post x y := y = sumB x.xs
  res _ y := .int .u64 (.v y)
  heap' x _ := [(0, obh .u8 5 x.xs x.vs)]
  G' x _ := x.G
noncomputable def body44 : SpecT := body (fun _ => noSpec) (fun _ => famL sumL) 44

/-! ### vireoref27.number -/
def NumRPre (k : Nat) (x : OutX) : Prop := 0 ≤ x.n ∧ x.n < 18446744073709551616 ∧ x.xs.length + (numB 10 x.n.toNat).length ≤ 1000000100 ∧ x.n < k
def conNumR (k : Nat) : Con where
  X := OutX
  n := 1
  args x := [obs 0 x.xs x.vs, .int .u64 (.v x.n)]
  heap x := [(0, obh .u8 5 x.xs x.vs)]
  G x := x.G
  pre x := NumRPre k x
  Y := OutY
  m := 2
  post x y := y.xs = x.xs ++ numB 10 x.n.toNat
  res _ y := obs 1 y.xs y.vs
  heap' _ y := [(1, obh .u8 5 y.xs y.vs)]
  G' x _ := x.G
def callR (k : Nat) (f : Nat) : SpecT := bif Nat.beq f 45 then (conNumR k).spec else noSpec
noncomputable def body45 (k : Nat) : SpecT := body (callR k) (fun _ _ _ _ _ => False) 45

/-! ### vireoref01.Bits -/
def bitsB : Nat → Int → List Int
  | 0, _ => []
  | k + 1, w => IntKind.i64.wrap (w % 2) :: bitsB k (w / 2)
structure BitX where
  xs : List Int
  vs : List Value
  i : Nat
  w : Int
def BitInv (g : ListX) (x : BitX) : Prop := x.xs ++ bitsB (64 - x.i) x.w = g.xs ∧ x.xs.length = x.i ∧ x.i ≤ 64 ∧ 0 ≤ x.w ∧ x.w < 18446744073709551616
def bitL (g : ListX) : LoopS where
  X := BitX
  f := 0
  m := 1
  tmps x := [(3, obs 0 x.xs x.vs), (4, .int .i64 (.v x.i)), (0, .int .u64 (.v x.w))]
  heap x := [(0, obh .i64 3 x.xs x.vs)]
  G x := g.G
  inv x := BitInv g x
  mea x := 64 - x.i
structure WG where
  w : Int
  G : Nat → Option Obj
def BitPre (x : WG) : Prop := 0 ≤ x.w ∧ x.w < 18446744073709551616
def conBits : Con where
  X := WG
  n := 0
  args x := [.int .u64 (.v x.w)]
  heap x := []
  G x := x.G
  pre x := BitPre x
  Y := OutY
  m := 1
  post x y := y.xs = bitsB 64 x.w
  res _ y := obs 0 y.xs y.vs
  heap' _ y := [(0, obh .i64 3 y.xs y.vs)]
  G' x _ := x.G
noncomputable def body77 : SpecT := body (fun _ => noSpec) (fun _ => peel (famL bitL)) 77

/-! ### vireoref01.Word -/
def wordB : List Int → Int
  | [] => 0
  | b :: r => IntKind.u64.wrap (IntKind.u64.wrap (wordB r * 2) + IntKind.u64.wrap b)
structure WordX where
  i : Int
  w : Int
def WordInv (g : ListX) (x : WordX) : Prop := -1 ≤ x.i ∧ x.i ≤ 63 ∧ x.w = wordB (g.xs.drop (x.i + 1).toNat)
def wordL (g : ListX) : LoopS where
  X := WordX
  f := 1
  m := 1
  tmps x := [(0, obs 0 g.xs g.vs), (4, .int .i64 (.v x.i)), (3, .int .u64 (.v x.w))]
  heap x := [(0, obh .i64 3 g.xs g.vs)]
  G x := g.G
  inv x := WordInv g x
  mea x := (x.i + 1).toNat
def WordPre (x : ListX) : Prop := x.xs.length = 64
def conWord : Con where
  X := ListX
  n := 1
  args x := [obs 0 x.xs x.vs]
  heap x := [(0, obh .i64 3 x.xs x.vs)]
  G x := x.G
  pre x := WordPre x
  Y := Int
  m := 1
  post x y := y = wordB x.xs
  res _ y := .int .u64 (.v y)
  heap' x _ := [(0, obh .i64 3 x.xs x.vs)]
  G' x _ := x.G
noncomputable def body78 : SpecT := body (fun _ => noSpec) (fun _ => famL wordL) 78

/-! ### vireoref02.Bytes -/
structure TwoX where
  xs : List Int
  vs : List Value
  ys : List Int
  ws : List Value
  G : Nat → Option Obj
def CmpInv (g : TwoX) (i : Nat) : Prop := i ≤ g.xs.length ∧ g.xs.length = g.ys.length ∧ g.xs.take i = g.ys.take i
def cmpL (g : TwoX) : LoopS where
  X := Nat
  f := 2
  m := 2
  tmps i := [(0, obs 0 g.xs g.vs), (1, obs 1 g.ys g.ws), (5, .int .i64 (.v i))]
  heap i := [(0, obh .u8 5 g.xs g.vs), (1, obh .u8 5 g.ys g.ws)]
  G i := g.G
  inv i := CmpInv g i
  mea i := g.xs.length - i
def CmpPre (x : TwoX) : Prop := x.xs.length ≤ 1000000100
def conCmp : Con where
  X := TwoX
  n := 2
  args x := [obs 0 x.xs x.vs, obs 1 x.ys x.ws]
  heap x := [(0, obh .u8 5 x.xs x.vs), (1, obh .u8 5 x.ys x.ws)]
  G x := x.G
  pre x := CmpPre x
  Y := Bool
  m := 2
  post x y := y = decide (x.xs = x.ys)
  res _ y := .bool (.v y)
  heap' x _ := [(0, obh .u8 5 x.xs x.vs), (1, obh .u8 5 x.ys x.ws)]
  G' x _ := x.G
noncomputable def body13 : SpecT := body (fun _ => noSpec) (fun _ => famL cmpL) 13
end Sw
