/- What this text proves, part by part: save.reader.number, save.clone, word.Of: what they do. What SwRead's conditions come to, word for word: made by a program. save.reader.number, save.clone, word.Of do what is said. save.reader.text, event: what they do. What SwRead2's conditions come to, word for word: made by a program. save.reader.text and event do what is said. save.Parse, and the sum and the comparison of bytes that stay: what they do. What SwParse's conditions come to, word for word: made by a program. A record's bytes, read back piece by piece: the plain law. No condition is added. -/
import Derived.Test.YtafngdeeachggaaGreatFrames01
import Derived.Test.YtafngdeeachggaaGreatFrames02
import Derived.Test.YtafngdeeachggaaGreatFrames03
import Derived.Test.YtafngdeeachggaaGreatFrames04
import Derived.Test.YtafngdeeachggaaGreatFrames05
import Derived.Test.YtafngdeeachggaaGreatFrames06
import Derived.Test.YtafngdeeachggaaGreatFrames07
set_option linter.unusedVariables false
set_option linter.unusedSimpArgs false
section
/- save.reader.number, save.clone, word.Of: what they do. -/
namespace Sw
open Go Go.Proofs Vx

/-- A reader: where its bytes lie, which they are, and whether something was wrong. -/
structure RdrX where
  p : Option Addr
  l : Nat
  c : Nat
  d : List Int
  bad : Bool
  G : Nat → Option Obj
def rdrRow (p : Option Addr) (l c : Nat) (bad : Bool) : SV := .cons (.gsl p (.v l) (.v c)) (.cons (.bool (.v bad)) .nil)
def RdrOk (x : RdrX) : Prop := Bs x.G x.p x.l x.c x.d ∧ x.l ≤ 1000000
def HasNum (d : List Int) : Prop := ∃ (v : Nat) (rest : List Int), v < 18446744073709551616 ∧ d = numB 10 v ++ rest
structure NumY where
  v : Int
  p : Option Addr
  l : Nat
  c : Nat
  d : List Int
  bad : Bool
def RNumPost (x : RdrX) (y : NumY) : Prop := Bs x.G y.p y.l y.c y.d ∧ y.l ≤ x.l ∧ IsU64 y.v ∧
  ((y.bad = true ∧ (x.bad = true ∨ ¬ HasNum x.d)) ∨ (y.bad = x.bad ∧ x.d = numB 10 y.v.toNat ++ y.d))
structure RNumI where
  lo : Int
  i : Nat
  p : Option Addr
  l : Nat
  c : Nat
  d : List Int
def RNumInv (x : RdrX) (z : RNumI) : Prop := Half x.d z.i z.lo.toNat z.d ∧ 0 ≤ z.lo ∧ Bs x.G z.p z.l z.c z.d ∧ z.l ≤ x.l ∧ x.l ≤ 1000000
def rnumL (x : RdrX) : LoopS where
  X := RNumI
  f := 1
  m := 1
  tmps z := [(0, .ptr 0 (.lit 0)), (3, .int .u64 (.v z.lo)), (4, .int .i64 (.v z.i))]
  heap z := [(0, .cells (rdrRow z.p z.l z.c x.bad) 90 false)]
  G _ := x.G
  inv z := RNumInv x z
  mea z := 10 - z.i
def conRNum : Con where
  X := RdrX
  n := 1
  args _ := [.ptr 0 (.lit 0)]
  heap x := [(0, .cells (rdrRow x.p x.l x.c x.bad) 90 false)]
  G x := x.G
  pre x := RdrOk x
  Y := NumY
  m := 1
  post x y := RNumPost x y
  res _ y := .int .u64 (.v y.v)
  heap' _ y := [(0, .cells (rdrRow y.p y.l y.c y.bad) 90 false)]
  G' x _ := x.G
noncomputable def body50 : SpecT := body (fun _ => noSpec) (fun _ => famL rnumL) 50
structure BsX where
  p : Option Addr
  l : Nat
  c : Nat
  d : List Int
  G : Nat → Option Obj
def conClone : Con where
  X := BsX
  n := 0
  args x := [.gsl x.p (.v x.l) (.v x.c)]
  heap _ := []
  G x := x.G
  pre x := Bs x.G x.p x.l x.c x.d ∧ x.l ≤ 1000000
  Y := OutY
  m := 1
  post x y := y.xs = x.d ∧ Cells y.vs
  res _ y := obs 0 y.xs y.vs
  heap' _ y := [(0, obh .u8 5 y.xs y.vs)]
  G' x _ := x.G
noncomputable def body75 : SpecT := body (fun _ => noSpec) (fun _ bx => iter bx 0) 75
def conOf : Con where
  X := BsX
  n := 0
  args x := [.gsl x.p (.v x.l) (.v x.c)]
  heap _ := []
  G x := x.G
  pre x := Bs x.G x.p x.l x.c x.d ∧ x.l = 4
  Y := Int
  m := 0
  post x y := y = x.d.getD 0 0 + x.d.getD 1 0 * 256 + x.d.getD 2 0 * 65536 + x.d.getD 3 0 * 16777216
  res _ y := .int .u64 (.v y)
  heap' _ _ := []
  G' x _ := x.G
noncomputable def body49 : SpecT := body (fun _ => noSpec) (fun _ bx => iter bx 5) 49
end Sw
end
section
/- What SwRead's conditions come to, word for word: made by a program. -/
set_option maxRecDepth 100000
set_option linter.unusedVariables false
namespace Sw
open Go Go.Proofs Vx
theorem rnum_vc : (conRNum.Vc body50) = (
∀ (x : Sw.RdrX), Sw.conRNum.pre x →
 ∃ (g : Sw.RdrX), ∃ (x0 : Sw.RNumI), x0.lo = (0 : Int) ∧
 (↑x0.i : Int) = (0 : Int) ∧
 x0.p = x.p ∧
 x0.l = x.l ∧
 x0.c = x.c ∧
 g.bad = x.bad ∧
 Vx.Sub ((Sw.rnumL g).G x0) x.G ∧
 (Sw.rnumL g).inv x0 ∧
 ∀ (x_1 : Sw.RNumI), (Sw.rnumL g).inv x_1 →
 ∀ (d : Nat → Go.Value), (((↑x_1.l : Int) == (0 : Int)) = Bool.true →
 ∃ (y : Sw.NumY), Sw.conRNum.post x y ∧
 y.v = (0 : Int) ∧ y.p = x_1.p ∧ y.l = x_1.l ∧ y.c = x_1.c ∧ y.bad = Bool.true ∧ Vx.Sub (Sw.conRNum.G' x y) g.G ∧ True) ∧
 (((↑x_1.l : Int) == (0 : Int)) = Bool.false →
 (((↑x_1.i : Int) == (10 : Int)) = Bool.true →
 ∃ (y : Sw.NumY), Sw.conRNum.post x y ∧
 y.v = (0 : Int) ∧
 y.p = x_1.p ∧ y.l = x_1.l ∧ y.c = x_1.c ∧ y.bad = Bool.true ∧ Vx.Sub (Sw.conRNum.G' x y) g.G ∧ True) ∧
 (((↑x_1.i : Int) == (10 : Int)) = Bool.false →
 (((↑x_1.i : Int) == (9 : Int)) = Bool.true →
 ((0 : Int) ≤ (0 : Int) ∧ (0 : Int) < (↑x_1.l : Int)) ∧
 ((0 : Int) ≤ (0 : Int) ∧ (0 : Int) < (↑x_1.l : Int) →
 ∃ (b : Nat), ∃ (o : Nat), x_1.p = Option.some (Go.Addr.mk b o Option.none) ∧
 ∃ (x_2 : Int), Vx.Rd g.G b (o + (0 : Nat)) [Go.Value.int Go.IntKind.u8 x_2] ∧
 (Decidable.decide (x_2 > (1 : Int)) = Bool.true →
 ∃ (y : Sw.NumY), Sw.conRNum.post x y ∧
 y.v = (0 : Int) ∧
 y.p = x_1.p ∧
 y.l = x_1.l ∧ y.c = x_1.c ∧ y.bad = Bool.true ∧ Vx.Sub (Sw.conRNum.G' x y) g.G ∧ True) ∧
 (Decidable.decide (x_2 > (1 : Int)) = Bool.false →
 (Decidable.decide ((↑x_1.i : Int) > (0 : Int)) = Bool.true →
 ((0 : Int) ≤ (0 : Int) ∧ (0 : Int) < (↑x_1.l : Int)) ∧
 ((0 : Int) ≤ (0 : Int) ∧ (0 : Int) < (↑x_1.l : Int) →
 ∃ (b : Nat), ∃ (o : Nat), x_1.p = Option.some (Go.Addr.mk b o Option.none) ∧
 ∃ (x_3 : Int), Vx.Rd g.G b (o + (0 : Nat)) [Go.Value.int Go.IntKind.u8 x_3] ∧
 ((x_3 == (0 : Int)) = Bool.true →
 ∃ (y : Sw.NumY), Sw.conRNum.post x y ∧
 y.v = (0 : Int) ∧
 y.p = x_1.p ∧
 y.l = x_1.l ∧
 y.c = x_1.c ∧
 y.bad = Bool.true ∧ Vx.Sub (Sw.conRNum.G' x y) g.G ∧ True) ∧
 ((x_3 == (0 : Int)) = Bool.false →
 ((0 : Int) ≤ (0 : Int) ∧ (0 : Int) < (↑x_1.l : Int)) ∧
 ((0 : Int) ≤ (0 : Int) ∧ (0 : Int) < (↑x_1.l : Int) →
 ∃ (b : Nat), ∃ (o : Nat), x_1.p = Option.some (Go.Addr.mk b o Option.none) ∧
 ∃ (x_4 : Int), Vx.Rd g.G b (o + (0 : Nat)) [Go.Value.int Go.IntKind.u8 x_4] ∧
 x_1.l ≤ x_1.c ∧
 (x_1.l ≤ x_1.c →
 ((0 : Int) ≤ (1 : Int) ∧ (1 : Int) ≤ (↑x_1.l : Int)) ∧
 ((0 : Int) ≤ (1 : Int) ∧ (1 : Int) ≤ (↑x_1.l : Int) →
 ∀ (a' : Option Go.Addr), (a' =
 if x_1.c = (1 : Nat) then x_1.p
 else
 Option.map
 (fun (x : Go.Addr) => x.add (1 : Nat))
 x_1.p) →
 ∀ (r : Int), r =
 Vx.bits Go.BinOp.and Go.IntKind.u8 x_4
 (127 : Int) →
 ∀ (r_1 : Int), r_1 = Go.IntKind.u64.wrap r →
 ∀ (r : Int), r =
 Go.IntKind.i64.wrap
 ((7 : Int) * (↑x_1.i : Int)) →
 Decidable.decide ((0 : Int) ≤ r) =
 Bool.true ∧
 (Decidable.decide ((0 : Int) ≤ r) =
 Bool.true →
 ∀ (r_2 : Int), r_2 =
 Vx.shft Go.BinOp.shl
 Go.IntKind.u64 r_1 r →
 ∀ (r : Int), r =
 Vx.bits Go.BinOp.or
 Go.IntKind.u64 x_1.lo
 r_2 →
 (Decidable.decide
 (x_4 <
 (128 : Int)) =
 Bool.true →
 ∃ (y : Sw.NumY), Sw.conRNum.post x y ∧
 y.v = r ∧
 y.p = a' ∧
 y.l =
 x_1.l -
 (1 :
 Nat) ∧
 y.c =
 x_1.c -
 (1 :
 Nat) ∧
 y.bad =
 g.bad ∧
 Vx.Sub
 (Sw.conRNum.G'
 x y)
 g.G ∧
 True) ∧
 (Decidable.decide
 (x_4 <
 (128 : Int)) =
 Bool.false →
 ∀ (r_3 : Int), r_3 =
 Go.IntKind.i64.wrap
 ((↑x_1.i :
 Int) +
 (1 : Int)) →
 ∃ (x' : Sw.RNumI), (Sw.rnumL g).inv
 x' ∧
 (Sw.rnumL g).mea
 x' <
 (Sw.rnumL
 g).mea
 x_1 ∧
 x'.lo = r ∧
 (↑x'.i :
 Int) =
 r_3 ∧
 x'.p =
 a' ∧
 x'.l =
 x_1.l -
 (1 :
 Nat) ∧
 x'.c =
 x_1.c -
 (1 :
 Nat) ∧
 g.bad =
 g.bad ∧
 Vx.Sub
 ((Sw.rnumL
 g).G
 x')
 g.G ∧
 True)))))))) ∧
 (Decidable.decide ((↑x_1.i : Int) > (0 : Int)) = Bool.false →
 ((0 : Int) ≤ (0 : Int) ∧ (0 : Int) < (↑x_1.l : Int)) ∧
 ((0 : Int) ≤ (0 : Int) ∧ (0 : Int) < (↑x_1.l : Int) →
 ∃ (b : Nat), ∃ (o : Nat), x_1.p = Option.some (Go.Addr.mk b o Option.none) ∧
 ∃ (x_3 : Int), Vx.Rd g.G b (o + (0 : Nat)) [Go.Value.int Go.IntKind.u8 x_3] ∧
 x_1.l ≤ x_1.c ∧
 (x_1.l ≤ x_1.c →
 ((0 : Int) ≤ (1 : Int) ∧ (1 : Int) ≤ (↑x_1.l : Int)) ∧
 ((0 : Int) ≤ (1 : Int) ∧ (1 : Int) ≤ (↑x_1.l : Int) →
 ∀ (a' : Option Go.Addr), (a' =
 if x_1.c = (1 : Nat) then x_1.p
 else Option.map (fun (x : Go.Addr) => x.add (1 : Nat)) x_1.p) →
 ∀ (r : Int), r = Vx.bits Go.BinOp.and Go.IntKind.u8 x_3 (127 : Int) →
 ∀ (r_1 : Int), r_1 = Go.IntKind.u64.wrap r →
 ∀ (r : Int), r = Go.IntKind.i64.wrap ((7 : Int) * (↑x_1.i : Int)) →
 Decidable.decide ((0 : Int) ≤ r) = Bool.true ∧
 (Decidable.decide ((0 : Int) ≤ r) = Bool.true →
 ∀ (r_2 : Int), r_2 = Vx.shft Go.BinOp.shl Go.IntKind.u64 r_1 r →
 ∀ (r : Int), r =
 Vx.bits Go.BinOp.or Go.IntKind.u64 x_1.lo
 r_2 →
 (Decidable.decide (x_3 < (128 : Int)) =
 Bool.true →
 ∃ (y : Sw.NumY), Sw.conRNum.post x y ∧
 y.v = r ∧
 y.p = a' ∧
 y.l = x_1.l - (1 : Nat) ∧
 y.c = x_1.c - (1 : Nat) ∧
 y.bad = g.bad ∧
 Vx.Sub (Sw.conRNum.G' x y)
 g.G ∧
 True) ∧
 (Decidable.decide (x_3 < (128 : Int)) =
 Bool.false →
 ∀ (r_3 : Int), r_3 =
 Go.IntKind.i64.wrap
 ((↑x_1.i : Int) + (1 : Int)) →
 ∃ (x' : Sw.RNumI), (Sw.rnumL g).inv x' ∧
 (Sw.rnumL g).mea x' <
 (Sw.rnumL g).mea x_1 ∧
 x'.lo = r ∧
 (↑x'.i : Int) = r_3 ∧
 x'.p = a' ∧
 x'.l = x_1.l - (1 : Nat) ∧
 x'.c =
 x_1.c - (1 : Nat) ∧
 g.bad = g.bad ∧
 Vx.Sub
 ((Sw.rnumL g).G
 x')
 g.G ∧
 True))))))))) ∧
 (((↑x_1.i : Int) == (9 : Int)) = Bool.false →
 (Decidable.decide ((↑x_1.i : Int) > (0 : Int)) = Bool.true →
 ((0 : Int) ≤ (0 : Int) ∧ (0 : Int) < (↑x_1.l : Int)) ∧
 ((0 : Int) ≤ (0 : Int) ∧ (0 : Int) < (↑x_1.l : Int) →
 ∃ (b : Nat), ∃ (o : Nat), x_1.p = Option.some (Go.Addr.mk b o Option.none) ∧
 ∃ (x_2 : Int), Vx.Rd g.G b (o + (0 : Nat)) [Go.Value.int Go.IntKind.u8 x_2] ∧
 ((x_2 == (0 : Int)) = Bool.true →
 ∃ (y : Sw.NumY), Sw.conRNum.post x y ∧
 y.v = (0 : Int) ∧
 y.p = x_1.p ∧
 y.l = x_1.l ∧ y.c = x_1.c ∧ y.bad = Bool.true ∧ Vx.Sub (Sw.conRNum.G' x y) g.G ∧ True) ∧
 ((x_2 == (0 : Int)) = Bool.false →
 ((0 : Int) ≤ (0 : Int) ∧ (0 : Int) < (↑x_1.l : Int)) ∧
 ((0 : Int) ≤ (0 : Int) ∧ (0 : Int) < (↑x_1.l : Int) →
 ∃ (b : Nat), ∃ (o : Nat), x_1.p = Option.some (Go.Addr.mk b o Option.none) ∧
 ∃ (x_3 : Int), Vx.Rd g.G b (o + (0 : Nat)) [Go.Value.int Go.IntKind.u8 x_3] ∧
 x_1.l ≤ x_1.c ∧
 (x_1.l ≤ x_1.c →
 ((0 : Int) ≤ (1 : Int) ∧ (1 : Int) ≤ (↑x_1.l : Int)) ∧
 ((0 : Int) ≤ (1 : Int) ∧ (1 : Int) ≤ (↑x_1.l : Int) →
 ∀ (a' : Option Go.Addr), (a' =
 if x_1.c = (1 : Nat) then x_1.p
 else Option.map (fun (x : Go.Addr) => x.add (1 : Nat)) x_1.p) →
 ∀ (r : Int), r = Vx.bits Go.BinOp.and Go.IntKind.u8 x_3 (127 : Int) →
 ∀ (r_1 : Int), r_1 = Go.IntKind.u64.wrap r →
 ∀ (r : Int), r = Go.IntKind.i64.wrap ((7 : Int) * (↑x_1.i : Int)) →
 Decidable.decide ((0 : Int) ≤ r) = Bool.true ∧
 (Decidable.decide ((0 : Int) ≤ r) = Bool.true →
 ∀ (r_2 : Int), r_2 = Vx.shft Go.BinOp.shl Go.IntKind.u64 r_1 r →
 ∀ (r : Int), r =
 Vx.bits Go.BinOp.or Go.IntKind.u64 x_1.lo
 r_2 →
 (Decidable.decide (x_3 < (128 : Int)) =
 Bool.true →
 ∃ (y : Sw.NumY), Sw.conRNum.post x y ∧
 y.v = r ∧
 y.p = a' ∧
 y.l = x_1.l - (1 : Nat) ∧
 y.c = x_1.c - (1 : Nat) ∧
 y.bad = g.bad ∧
 Vx.Sub (Sw.conRNum.G' x y)
 g.G ∧
 True) ∧
 (Decidable.decide (x_3 < (128 : Int)) =
 Bool.false →
 ∀ (r_3 : Int), r_3 =
 Go.IntKind.i64.wrap
 ((↑x_1.i : Int) + (1 : Int)) →
 ∃ (x' : Sw.RNumI), (Sw.rnumL g).inv x' ∧
 (Sw.rnumL g).mea x' <
 (Sw.rnumL g).mea x_1 ∧
 x'.lo = r ∧
 (↑x'.i : Int) = r_3 ∧
 x'.p = a' ∧
 x'.l = x_1.l - (1 : Nat) ∧
 x'.c =
 x_1.c - (1 : Nat) ∧
 g.bad = g.bad ∧
 Vx.Sub
 ((Sw.rnumL g).G
 x')
 g.G ∧
 True)))))))) ∧
 (Decidable.decide ((↑x_1.i : Int) > (0 : Int)) = Bool.false →
 ((0 : Int) ≤ (0 : Int) ∧ (0 : Int) < (↑x_1.l : Int)) ∧
 ((0 : Int) ≤ (0 : Int) ∧ (0 : Int) < (↑x_1.l : Int) →
 ∃ (b : Nat), ∃ (o : Nat), x_1.p = Option.some (Go.Addr.mk b o Option.none) ∧
 ∃ (x_2 : Int), Vx.Rd g.G b (o + (0 : Nat)) [Go.Value.int Go.IntKind.u8 x_2] ∧
 x_1.l ≤ x_1.c ∧
 (x_1.l ≤ x_1.c →
 ((0 : Int) ≤ (1 : Int) ∧ (1 : Int) ≤ (↑x_1.l : Int)) ∧
 ((0 : Int) ≤ (1 : Int) ∧ (1 : Int) ≤ (↑x_1.l : Int) →
 ∀ (a' : Option Go.Addr), (a' =
 if x_1.c = (1 : Nat) then x_1.p
 else Option.map (fun (x : Go.Addr) => x.add (1 : Nat)) x_1.p) →
 ∀ (r : Int), r = Vx.bits Go.BinOp.and Go.IntKind.u8 x_2 (127 : Int) →
 ∀ (r_1 : Int), r_1 = Go.IntKind.u64.wrap r →
 ∀ (r : Int), r = Go.IntKind.i64.wrap ((7 : Int) * (↑x_1.i : Int)) →
 Decidable.decide ((0 : Int) ≤ r) = Bool.true ∧
 (Decidable.decide ((0 : Int) ≤ r) = Bool.true →
 ∀ (r_2 : Int), r_2 = Vx.shft Go.BinOp.shl Go.IntKind.u64 r_1 r →
 ∀ (r : Int), r = Vx.bits Go.BinOp.or Go.IntKind.u64 x_1.lo r_2 →
 (Decidable.decide (x_2 < (128 : Int)) = Bool.true →
 ∃ (y : Sw.NumY), Sw.conRNum.post x y ∧
 y.v = r ∧
 y.p = a' ∧
 y.l = x_1.l - (1 : Nat) ∧
 y.c = x_1.c - (1 : Nat) ∧
 y.bad = g.bad ∧
 Vx.Sub (Sw.conRNum.G' x y) g.G ∧ True) ∧
 (Decidable.decide (x_2 < (128 : Int)) = Bool.false →
 ∀ (r_3 : Int), r_3 = Go.IntKind.i64.wrap ((↑x_1.i : Int) + (1 : Int)) →
 ∃ (x' : Sw.RNumI), (Sw.rnumL g).inv x' ∧
 (Sw.rnumL g).mea x' < (Sw.rnumL g).mea x_1 ∧
 x'.lo = r ∧
 (↑x'.i : Int) = r_3 ∧
 x'.p = a' ∧
 x'.l = x_1.l - (1 : Nat) ∧
 x'.c = x_1.c - (1 : Nat) ∧
 g.bad = g.bad ∧
 Vx.Sub ((Sw.rnumL g).G x') g.G ∧
 True)))))))))) := by kernel_rfl
theorem clone_vc : (conClone.Vc body75) = (
∀ (x : Sw.BsX), Sw.conClone.pre x →
 ∃ (ys : List Int), ys.length = x.l ∧
 Vx.RdS x.G x.p x.l (List.map (Go.Value.int Go.IntKind.u8) ys) ∧
 x.l ≤ (140737488355328 : Nat) ∧
 (x.l ≤ (140737488355328 : Nat) →
 x.l ≤ (9223372036854775807 : Nat) ∧
 (x.l ≤ (9223372036854775807 : Nat) →
 ∀ (c : Nat) (vs : List Go.Value), x.l ≤ c →
 vs.length = (c - x.l) * (1 : Nat) →
 (∀ (v : Go.Value), v ∈ vs → v.oneCell' = Bool.true) →
 ∃ (y : Sw.OutY), Sw.conClone.post x y ∧
 y.xs.length = x.l ∧
 y.xs.length + y.vs.length = c ∧
 y.xs = ys ∧ y.xs.length = x.l ∧ y.vs = vs ∧ y.vs.length = (c - x.l) * (1 : Nat) ∧ Vx.Sub (Sw.conClone.G' x y) x.G ∧ True))) := by kernel_rfl
theorem of_vc : (conOf.Vc body49) = (
∀ (x : Sw.BsX), Sw.conOf.pre x →
 (Decidable.decide ((0 : Int) < (↑x.l : Int)) = Bool.true →
 ((0 : Int) ≤ (0 : Int) ∧ (0 : Int) < (↑x.l : Int)) ∧
 ((0 : Int) ≤ (0 : Int) ∧ (0 : Int) < (↑x.l : Int) →
 ∃ (b : Nat), ∃ (o : Nat), x.p = Option.some (Go.Addr.mk b o Option.none) ∧
 ∃ (x_1 : Int), Vx.Rd x.G b (o + (0 : Nat)) [Go.Value.int Go.IntKind.u8 x_1] ∧
 ∀ (r : Int), r = Go.IntKind.u64.wrap x_1 →
 ∀ (r_1 : Int), r_1 = Vx.shft Go.BinOp.shl Go.IntKind.u64 r (0 : Int) →
 ∀ (r : Int), r = Vx.bits Go.BinOp.or Go.IntKind.u64 (0 : Int) r_1 →
 (Decidable.decide ((1 : Int) < (↑x.l : Int)) = Bool.true →
 ((0 : Int) ≤ (1 : Int) ∧ (1 : Int) < (↑x.l : Int)) ∧
 ((0 : Int) ≤ (1 : Int) ∧ (1 : Int) < (↑x.l : Int) →
 ∃ (b : Nat), ∃ (o : Nat), x.p = Option.some (Go.Addr.mk b o Option.none) ∧
 ∃ (x_2 : Int), Vx.Rd x.G b (o + (1 : Nat)) [Go.Value.int Go.IntKind.u8 x_2] ∧
 ∀ (r_2 : Int), r_2 = Go.IntKind.u64.wrap x_2 →
 ∀ (r_3 : Int), r_3 = Vx.shft Go.BinOp.shl Go.IntKind.u64 r_2 (8 : Int) →
 ∀ (r_4 : Int), r_4 = Vx.bits Go.BinOp.or Go.IntKind.u64 r r_3 →
 (Decidable.decide ((2 : Int) < (↑x.l : Int)) = Bool.true →
 ((0 : Int) ≤ (2 : Int) ∧ (2 : Int) < (↑x.l : Int)) ∧
 ((0 : Int) ≤ (2 : Int) ∧ (2 : Int) < (↑x.l : Int) →
 ∃ (b : Nat), ∃ (o : Nat), x.p = Option.some (Go.Addr.mk b o Option.none) ∧
 ∃ (x_3 : Int), Vx.Rd x.G b (o + (2 : Nat)) [Go.Value.int Go.IntKind.u8 x_3] ∧
 ∀ (r : Int), r = Go.IntKind.u64.wrap x_3 →
 ∀ (r_5 : Int), r_5 = Vx.shft Go.BinOp.shl Go.IntKind.u64 r (16 : Int) →
 ∀ (r : Int), r = Vx.bits Go.BinOp.or Go.IntKind.u64 r_4 r_5 →
 (Decidable.decide ((3 : Int) < (↑x.l : Int)) = Bool.true →
 ((0 : Int) ≤ (3 : Int) ∧ (3 : Int) < (↑x.l : Int)) ∧
 ((0 : Int) ≤ (3 : Int) ∧ (3 : Int) < (↑x.l : Int) →
 ∃ (b : Nat), ∃ (o : Nat), x.p = Option.some (Go.Addr.mk b o Option.none) ∧
 ∃ (x_4 : Int), Vx.Rd x.G b (o + (3 : Nat))
 [Go.Value.int Go.IntKind.u8 x_4] ∧
 ∀ (r_6 : Int), r_6 = Go.IntKind.u64.wrap x_4 →
 ∀ (r_7 : Int), r_7 =
 Vx.shft Go.BinOp.shl Go.IntKind.u64
 r_6 (24 : Int) →
 ∀ (r_8 : Int), r_8 =
 Vx.bits Go.BinOp.or Go.IntKind.u64
 r r_7 →
 (Decidable.decide
 ((4 : Int) < (↑x.l : Int)) =
 Bool.true →
 ((0 : Int) ≤ (4 : Int) ∧
 (4 : Int) < (↑x.l : Int)) ∧
 ((0 : Int) ≤ (4 : Int) ∧
 (4 : Int) < (↑x.l : Int) →
 ∃ (b : Nat), ∃ (o : Nat), x.p =
 Option.some
 (Go.Addr.mk b o
 Option.none) ∧
 ∃ (x_5 : Int), Vx.Rd x.G b
 (o + (4 : Nat))
 [Go.Value.int
 Go.IntKind.u8
 x_5] ∧
 ∀ (r : Int), r =
 Go.IntKind.u64.wrap
 x_5 →
 ∀ (r_9 : Int), r_9 =
 Vx.shft
 Go.BinOp.shl
 Go.IntKind.u64
 r
 (32 :
 Int) →
 ∀
 (r :
 Int), r =
 Vx.bits
 Go.BinOp.or
 Go.IntKind.u64
 r_8
 r_9 →
 False)) ∧
 (Decidable.decide
 ((4 : Int) < (↑x.l : Int)) =
 Bool.false →
 ∃ (y : Int), Sw.conOf.post x y ∧
 y = r_8 ∧
 Vx.Sub (Sw.conOf.G' x y)
 x.G ∧
 True))) ∧
 (Decidable.decide ((3 : Int) < (↑x.l : Int)) = Bool.false →
 ∃ (y : Int), Sw.conOf.post x y ∧
 y = r ∧ Vx.Sub (Sw.conOf.G' x y) x.G ∧ True))) ∧
 (Decidable.decide ((2 : Int) < (↑x.l : Int)) = Bool.false →
 ∃ (y : Int), Sw.conOf.post x y ∧ y = r_4 ∧ Vx.Sub (Sw.conOf.G' x y) x.G ∧ True))) ∧
 (Decidable.decide ((1 : Int) < (↑x.l : Int)) = Bool.false →
 ∃ (y : Int), Sw.conOf.post x y ∧ y = r ∧ Vx.Sub (Sw.conOf.G' x y) x.G ∧ True))) ∧
 (Decidable.decide ((0 : Int) < (↑x.l : Int)) = Bool.false → ∃ (y : Int), Sw.conOf.post x y ∧ y = (0 : Int) ∧ Vx.Sub (Sw.conOf.G' x y) x.G ∧ True)) := by kernel_rfl
end Sw
end
section
/- save.reader.number, save.clone, word.Of do what is said. -/
namespace Sw
set_option maxRecDepth 100000
open Go Go.Proofs Vx

theorem Bs.head {G : Nat → Option Obj} {p : Option Addr} {l c : Nat} {d : List Int} (h : Bs G p l c d) (hl : 0 < l) :
    ∃ b r, d = b :: r ∧ IsByte b ∧ ∃ bk o, p = some ⟨bk, o, none⟩ ∧ Rd G bk (o + 0) [.int .u8 b] := by
  cases d with
  | nil => have := h.len; simp at this; omega
  | cons b r =>
    refine ⟨b, r, rfl, h.byte b List.mem_cons_self, ?_⟩
    rcases h.at_ with ⟨h0, _⟩ | ⟨bk, o, h1, h2⟩
    · omega
    · exact ⟨bk, o, h1, Rd.part (pre := []) (mid := [.int .u8 b]) (post := r.map (.int .u8)) h2 rfl⟩
/-- The byte at a place. -/
theorem Bs.nth {G : Nat → Option Obj} {p : Option Addr} {l c : Nat} {d : List Int} (h : Bs G p l c d) {i : Nat} (hi : i < l) :
    ∃ bk o, p = some ⟨bk, o, none⟩ ∧ Rd G bk (o + i) [.int .u8 (d.getD i 0)] ∧ IsByte (d.getD i 0) := by
  have hid : i < d.length := by rw [h.len]; exact hi
  rcases h.at_ with ⟨h0, _⟩ | ⟨bk, o, h1, h2⟩
  · omega
  · have e : d = d.take i ++ d.getD i 0 :: d.drop (i + 1) := by
      rw [getD_eq _ _ _ hid, List.getElem_cons_drop, List.take_append_drop]
    have := Rd.part (pre := (d.take i).map (.int .u8)) (mid := [.int .u8 (d.getD i 0)]) (post := (d.drop (i + 1)).map (.int .u8)) h2 (by
      conv => lhs; rw [e]
      simp)
    refine ⟨bk, o, h1, ?_, h.byte _ (by rw [getD_eq _ _ _ hid]; exact List.getElem_mem _)⟩
    have hl : ((d.take i).map (Value.int .u8)).length = i := by simp; omega
    rwa [hl] at this
theorem Bs.drop {G : Nat → Option Obj} {p a : Option Addr} {l c k : Nat} {d : List Int} (h : Bs G p l c d) (hk : k ≤ l) (ha : a = if c = k then p else p.map fun x => x.add k) : Bs G a (l - k) (c - k) (d.drop k) := by
  have hcap := h.cap
  refine ⟨by simp [h.len], by omega, ?_, fun b hb => h.byte b (List.mem_of_mem_drop hb)⟩
  rcases h.at_ with ⟨h0, h1⟩ | ⟨bk, o, h1, h2⟩
  · have : d = [] := by simpa using h1
    exact .inl ⟨by omega, by simp [this]⟩
  · by_cases e : l - k = 0
    · refine .inl ⟨e, ?_⟩
      have : d.drop k = [] := List.drop_eq_nil_of_le (by rw [h.len]; omega)
      simp [this]
    · refine .inr ⟨bk, o + k, ?_, ?_⟩
      · rw [ha, if_neg (by omega), h1]; simp [addr_add]
      · have := Rd.part (pre := (d.take k).map (.int .u8)) (mid := (d.drop k).map (.int .u8)) (post := []) h2 (by simp [← List.map_append])
        have hl : ((d.take k).map (Value.int .u8)).length = k := by have := h.len; simp; omega
        rwa [hl] at this
theorem Bs.take {G : Nat → Option Obj} {p : Option Addr} {l c k : Nat} {d : List Int} (h : Bs G p l c d) (hk : k ≤ l) : Bs G p k c (d.take k) := by
  have hcap := h.cap
  refine ⟨by have := h.len; simp; omega, by omega, ?_, fun b hb => h.byte b (List.mem_of_mem_take hb)⟩
  rcases h.at_ with ⟨h0, h1⟩ | ⟨bk, o, h1, h2⟩
  · have : d = [] := by simpa using h1
    exact .inl ⟨by omega, by simp [this]⟩
  · refine .inr ⟨bk, o, h1, ?_⟩
    have := Rd.part (pre := []) (mid := (d.take k).map (.int .u8)) (post := (d.drop k).map (.int .u8)) h2 (by simp [← List.map_append])
    simpa using this
theorem Bs.mono {G G' : Nat → Option Obj} {p : Option Addr} {l c : Nat} {d : List Int} (h : Bs G p l c d) (hG : Sub G G') : Bs G' p l c d := by
  refine ⟨h.len, h.cap, ?_, h.byte⟩
  rcases h.at_ with h | ⟨b, o, h1, c', e, fz, h2, h3⟩
  · exact .inl h
  · exact .inr ⟨b, o, h1, c', e, fz, hG _ _ h2, h3⟩
/-- A cell is what it is. -/
theorem Rd.one {G : Nat → Option Obj} {b o : Nat} {x y : Int} {k : IntKind} (h : Rd G b o [.int k x]) (h' : Rd G b o [.int k y]) : x = y := by
  obtain ⟨c, e, fz, h1, h2⟩ := h
  obtain ⟨c', e', fz', h1', h2'⟩ := h'
  rw [h1] at h1'
  cases h1'
  have a1 := h2 0 _ rfl
  have a2 := h2' 0 _ rfl
  rw [a1] at a2
  cases a2
  rfl

theorem and127 {b : Int} (h : IsByte b) : Vx.bits .and .u8 b 127 = b % 128 := by
  obtain ⟨h1, h2⟩ := h
  obtain ⟨n, rfl⟩ := Int.eq_ofNat_of_zero_le h1
  rw [bits_eq, show (127 : Int) = ((127 : Nat) : Int) from rfl, u8_and_nat _ _ (by omega) (by decide)]
  have : n &&& 127 = n % 128 := Nat.and_two_pow_sub_one_eq_mod n 7
  rw [this]; omega
theorem put7 {lo b : Int} {i : Nat} (hi : i ≤ 9) (h0 : 0 ≤ lo) (hlo : lo.toNat < 128 ^ i) (hb : IsByte b) (h9 : i = 9 → b ≤ 1) :
    Vx.bits .or .u64 lo (shft .shl .u64 (IntKind.u64.wrap (Vx.bits .and .u8 b 127)) (IntKind.i64.wrap (7 * (i : Int)))) = ((lo.toNat + (b.toNat % 128) * 128 ^ i : Nat) : Int) := by
  rw [and127 hb, w64 _ (by omega) (by omega)]
  obtain ⟨hb0, hb1⟩ := hb
  obtain ⟨n, rfl⟩ := Int.eq_ofNat_of_zero_le hb0
  obtain ⟨m, rfl⟩ := Int.eq_ofNat_of_zero_le h0
  simp only [Int.toNat_natCast] at *
  have e1 : IntKind.u64.wrap ((n : Int) % 128) = ((n % 128 : Nat) : Int) := by rw [wu64]; omega
  rw [e1]
  have hp : (128 : Nat) ^ i = 2 ^ (7 * i) := by rw [Nat.pow_mul]
  have hlt : n % 128 * 128 ^ i < 18446744073709551616 := by
    by_cases e : i = 9
    · subst e
      have := h9 rfl
      have : n % 128 * 128 ^ 9 ≤ 1 * 128 ^ 9 := Nat.mul_le_mul_right _ (by omega)
      omega
    · have h1 : 128 ^ i ≤ 128 ^ 8 := Nat.pow_le_pow_right (by omega) (by omega)
      have : n % 128 * 128 ^ i ≤ 127 * 128 ^ 8 := Nat.mul_le_mul (by omega) h1
      omega
  have e2 : shft .shl .u64 ((n % 128 : Nat) : Int) (7 * (i : Int)) = ((n % 128 * 128 ^ i : Nat) : Int) := by
    show IntKind.u64.wrap (((n % 128 : Nat) : Int) * 2 ^ (min (7 * (i : Int)).toNat 64)) = _
    have : min (7 * (i : Int)).toNat 64 = 7 * i := by omega
    rw [this, hp]
    have e3 : ((n % 128 : Nat) : Int) * 2 ^ (7 * i) = ((n % 128 * 2 ^ (7 * i) : Nat) : Int) := by simp
    rw [e3, wu64, ← hp]
    omega
  rw [e2]
  have hm : m < 18446744073709551616 := by
    have h1 : 128 ^ i ≤ 128 ^ 9 := Nat.pow_le_pow_right (by omega) (by omega)
    omega
  rw [bits_eq, u64_or_nat _ _ hm hlt]
  congr 1
  rw [Nat.or_comm, hp, Nat.mul_comm, ← Nat.two_pow_add_eq_or_of_lt (by rw [← hp]; exact hlo)]
  omega

theorem rnum_ok : conRNum.Vc body50 := by
  rw [rnum_vc]
  intro x hx
  obtain ⟨hbs, hl⟩ := (hx : RdrOk x)
  refine ⟨x, ⟨0, 0, x.p, x.l, x.c, x.d⟩, rfl, rfl, rfl, rfl, rfl, rfl, Sub.refl _, ⟨Half.start x.d, Int.le_refl _, hbs, Nat.le_refl _, hl⟩, ?_⟩
  intro z hz d
  obtain ⟨hh, hlo, hb, hzl, _⟩ := (hz : RNumInv x z)
  have hcap := hb.cap
  have bad : (z.d = [] ∨ (z.i = 9 ∧ ∃ b r, z.d = b :: r ∧ 1 < b) ∨ (0 < z.i ∧ ∃ r, z.d = 0 :: r)) → ∃ (y : Sw.NumY), Sw.conRNum.post x y ∧ y.v = (0 : Int) ∧ y.p = z.p ∧ y.l = z.l ∧ y.c = z.c ∧ y.bad = Bool.true ∧ Vx.Sub (Sw.conRNum.G' x y) x.G ∧ True := by
    intro h
    exact ⟨⟨0, z.p, z.l, z.c, z.d, true⟩, ⟨hb, hzl, ⟨Int.le_refl _, by show (0 : Int) < _; decide⟩, .inl ⟨rfl, .inr (hh.no h)⟩⟩, rfl, rfl, rfl, rfl, rfl, Sub.refl _, trivial⟩
  have hi9 := hh.i9
  -- a piece that is taken
  have tail : (0 < z.l) → (z.i = 9 → ∀ b r, z.d = b :: r → b ≤ 1) → (0 < z.i → ∀ b r, z.d = b :: r → b ≠ 0) →
      ((0 : Int) ≤ (0 : Int) ∧ (0 : Int) < (↑z.l : Int)) ∧
      ((0 : Int) ≤ (0 : Int) ∧ (0 : Int) < (↑z.l : Int) → ∃ (b : Nat), ∃ (o : Nat), z.p = Option.some { block := b, off := o } ∧ ∃ (x_3 : Int), Vx.Rd x.G b (o + (0 : Nat)) [Go.Value.int Go.IntKind.u8 x_3] ∧
      z.l ≤ z.c ∧ (z.l ≤ z.c → ((0 : Int) ≤ (1 : Int) ∧ (1 : Int) ≤ (↑z.l : Int)) ∧ ((0 : Int) ≤ (1 : Int) ∧ (1 : Int) ≤ (↑z.l : Int) →
      ∀ (a' : Option Go.Addr), (a' = if z.c = (1 : Nat) then z.p else Option.map (fun (x : Go.Addr) => x.add (1 : Nat)) z.p) →
      ∀ (r : Int), r = Vx.bits Go.BinOp.and Go.IntKind.u8 x_3 (127 : Int) → ∀ (r_1 : Int), r_1 = Go.IntKind.u64.wrap r → ∀ (r : Int), r = Go.IntKind.i64.wrap ((7 : Int) * (↑z.i : Int)) →
      Decidable.decide ((0 : Int) ≤ r) = Bool.true ∧ (Decidable.decide ((0 : Int) ≤ r) = Bool.true → ∀ (r_2 : Int), r_2 = Vx.shft Go.BinOp.shl Go.IntKind.u64 r_1 r → ∀ (r : Int), r = Vx.bits Go.BinOp.or Go.IntKind.u64 z.lo r_2 →
      (Decidable.decide (x_3 < (128 : Int)) = Bool.true → ∃ (y : Sw.NumY), Sw.conRNum.post x y ∧ y.v = r ∧ y.p = a' ∧ y.l = z.l - (1 : Nat) ∧ y.c = z.c - (1 : Nat) ∧ y.bad = x.bad ∧ Vx.Sub (Sw.conRNum.G' x y) x.G ∧ True) ∧
      (Decidable.decide (x_3 < (128 : Int)) = Bool.false → ∀ (r_3 : Int), r_3 = Go.IntKind.i64.wrap ((↑z.i : Int) + (1 : Int)) →
      ∃ (x' : Sw.RNumI), (Sw.rnumL x).inv x' ∧ (Sw.rnumL x).mea x' < (Sw.rnumL x).mea z ∧ x'.lo = r ∧ (↑x'.i : Int) = r_3 ∧ x'.p = a' ∧ x'.l = z.l - (1 : Nat) ∧ x'.c = z.c - (1 : Nat) ∧ x.bad = x.bad ∧ Vx.Sub ((Sw.rnumL x).G x') x.G ∧ True))))) := by
    intro hzl0 h9 h0
    obtain ⟨b, r, hd, hbyte, bk, o, e1, e2⟩ := hb.head hzl0
    have h9 : z.i = 9 → b ≤ 1 := fun h => h9 h b r hd
    have h0 : 0 < z.i → b ≠ 0 := fun h => h0 h b r hd
    have hlow := hh.low
    refine ⟨by omega, fun _ => ⟨bk, o, e1, b, e2, by omega, fun _ => ⟨by omega, fun _ a' ha r1 hr1 r2 hr2 r3 hr3 => ?_⟩⟩⟩
    have e3 : IntKind.i64.wrap (7 * (z.i : Int)) = 7 * (z.i : Int) := w64 _ (by omega) (by omega)
    refine ⟨decide_eq_true (by rw [hr3, e3]; omega), fun _ r4 hr4 r5 hr5 => ?_⟩
    have hv : r5 = ((z.lo.toNat + (b.toNat % 128) * 128 ^ z.i : Nat) : Int) := by
      rw [hr5, hr4, hr2, hr1, hr3]
      exact put7 hi9 hlo hlow hbyte h9
    have hbs' := hb.drop (k := 1) (by omega) ha
    rw [hd, List.drop_one, List.tail_cons] at hbs'
    rw [hd] at hh
    refine ⟨fun hlt => ?_, fun hge r6 hr6 => ?_⟩
    · have hlt := of_decide_eq_true hlt
      obtain ⟨g1, g2⟩ := hh.last hbyte.1 hlt h0 h9
      have hm : b.toNat % 128 = b.toNat := Nat.mod_eq_of_lt (by omega)
      rw [hm] at hv
      refine ⟨⟨r5, a', z.l - 1, z.c - 1, r, x.bad⟩, ⟨hbs', ?_, ⟨?_, ?_⟩, .inr ⟨rfl, ?_⟩⟩, rfl, rfl, rfl, rfl, rfl, Sub.refl _, trivial⟩
      · show z.l - 1 ≤ x.l; omega
      · show 0 ≤ r5; omega
      · show r5 < _; omega
      · show x.d = numB 10 r5.toNat ++ r
        rw [hv, Int.toNat_natCast]; exact g2
    · have hge := of_decide_eq_false hge
      have hn9 : z.i ≠ 9 := fun h => by have := h9 h; omega
      have hb1 := hbyte.2
      have g := hh.next (by omega) hbyte.2 hn9
      have hm : b.toNat % 128 = b.toNat - 128 := by
        have : b.toNat < 256 := by omega
        omega
      rw [hm] at hv
      refine ⟨⟨r5, z.i + 1, a', z.l - 1, z.c - 1, r⟩, ⟨?_, ?_, hbs', ?_, hl⟩, ?_, rfl, ?_, rfl, rfl, rfl, rfl, Sub.refl _, trivial⟩
      · show Half x.d (z.i + 1) r5.toNat r
        rw [hv, Int.toNat_natCast]; exact g
      · show 0 ≤ r5; omega
      · show z.l - 1 ≤ x.l; omega
      · show 10 - (z.i + 1) < 10 - z.i; omega
      · rw [hr6, w64 _ (by omega) (by omega)]; rfl
  have rd : ∀ (b : Nat) (o : Nat) (y : Int), z.p = some ⟨b, o, none⟩ → Rd x.G b (o + 0) [.int .u8 y] → 0 < z.l → ∃ r, z.d = y :: r := by
    intro b o y e1 e2 h0
    obtain ⟨b', r, hd, _, bk, o', e1', e2'⟩ := hb.head h0
    rw [e1] at e1'
    cases e1'
    rw [Rd.one e2 e2']
    exact ⟨r, hd⟩
  refine ⟨fun he => ?_, fun hne => ⟨fun he => ?_, fun h10 => ⟨fun he9 => ?_, fun hn9 => ?_⟩⟩⟩
  · have : z.d = [] := List.eq_nil_of_length_eq_zero (by rw [hb.len]; simpa using he)
    exact bad (.inl this)
  · have : (z.i : Int) = 10 := by simpa using he
    omega
  · have hne : ¬ (z.l : Int) = 0 := by simpa using hne
    have he9 : (z.i : Int) = 9 := by simpa using he9
    obtain ⟨b, r, hd, hbyte, bk, o, e1, e2⟩ := hb.head (by omega)
    refine ⟨by omega, fun _ => ⟨bk, o, e1, b, e2, fun hgt => ?_, fun hle => ⟨fun hpos => ?_, fun hno => ?_⟩⟩⟩
    · exact bad (.inr (.inl ⟨by omega, b, r, hd, by simpa using hgt⟩))
    · have hle := of_decide_eq_false hle
      refine ⟨by omega, fun _ => ⟨bk, o, e1, b, e2, fun h0 => ?_, fun hn0 => ?_⟩⟩
      · have : b = 0 := by simpa using h0
        exact bad (.inr (.inr ⟨by omega, r, by rw [hd, this]⟩))
      · have : ¬ b = 0 := by simpa using hn0
        exact tail (by omega) (fun _ b' r' h' => by rw [hd] at h'; cases h'; omega) (fun _ b' r' h' => by rw [hd] at h'; cases h'; exact this)
    · have hno := of_decide_eq_false hno
      omega
  · have hne : ¬ (z.l : Int) = 0 := by simpa using hne
    have hn9 : ¬ (z.i : Int) = 9 := by simpa using hn9
    obtain ⟨b, r, hd, hbyte, bk, o, e1, e2⟩ := hb.head (by omega)
    refine ⟨fun hpos => ⟨by omega, fun _ => ⟨bk, o, e1, b, e2, fun h0 => ?_, fun hn0 => ?_⟩⟩, fun hno => ?_⟩
    · have hpos := of_decide_eq_true hpos
      have : b = 0 := by simpa using h0
      exact bad (.inr (.inr ⟨by omega, r, by rw [hd, this]⟩))
    · have : ¬ b = 0 := by simpa using hn0
      exact tail (by omega) (fun h => by omega) (fun _ b' r' h' => by rw [hd] at h'; cases h'; exact this)
    · have hno := of_decide_eq_false hno
      exact tail (by omega) (fun h => by omega) (fun h => by omega)
theorem spec50 : SpecOk Tryz.prog 50 conRNum.spec :=
  Con.sound (body_ok (fun f => noSpec_ok _ f) (fun _ => (famL_ok rnumL _).ok) (fun vs w => Tryz.call50 vs w)) rnum_ok
theorem clone_ok : conClone.Vc body75 := by
  rw [clone_vc]
  intro x hx
  obtain ⟨hb, hl⟩ := (hx : Bs x.G x.p x.l x.c x.d ∧ x.l ≤ 1000000)
  have hlen := hb.len
  refine ⟨x.d, hb.len, hb.at_, by omega, fun _ => ⟨by omega, fun _ c vs hc hv h1 => ⟨⟨x.d, vs⟩, ⟨rfl, h1⟩, hb.len, ?_, rfl, hb.len, rfl, hv, Sub.refl _, trivial⟩⟩⟩
  show x.d.length + vs.length = c
  omega
/-- The list that clone leaves, as one that stays. -/
def frzClone : Frz conClone where
  id := 0
  o _ y := obh .u8 5 y.xs y.vs
  rest _ _ := []
  res _ y a := .gsl (some ⟨a, 0, none⟩) (.v y.xs.length) (.v (y.xs.length + y.vs.length))
  obj _ y := .cells (y.xs.map (Value.int .u8) ++ y.vs).toArray 5 (0, 0)
  lo := Nat.le_refl _
  hi := Nat.lt_succ_self _
  heap _ _ := rfl
  other _ _ e he := by cases he
  den _ y ρ β := by simp [obh, SObj.ren, SV.ren, SObj.den, SV.vals, fzOf, IL.den]
  val _ y ρ β := by simp [conClone, obs, SV.ren, SV.val, SV.vals, NE.den, Off.den]
  one _ _ _ := rfl
  wf _ _ _ _ _ := trivial
theorem spec75 : SpecOk Tryz.prog 75 (conClone.frz frzClone).spec :=
  Con.soundF frzClone (body_ok (fun f => noSpec_ok _ f) (iter_ways 0) (fun vs w => Tryz.call75 vs w)) clone_ok
theorem bs_frz (G : Nat → Option Obj) (a : Nat) (xs : List Int) (vs : List Value) (hx : ∀ b ∈ xs, IsByte b) :
    Bs (addG a (.cells (xs.map (Value.int .u8) ++ vs).toArray 5 (0, 0)) G) (some ⟨a, 0, none⟩) xs.length (xs.length + vs.length) xs := by
  refine ⟨rfl, by omega, .inr ⟨a, 0, rfl, _, _, _, addG_self _ _ _, fun j v hj => ?_⟩, hx⟩
  have hlt : j < (xs.map (Value.int .u8)).length := (List.getElem?_eq_some_iff.1 hj).1
  simp only [List.getElem?_toArray, Nat.zero_add]
  rw [List.getElem?_append_left hlt]
  exact hj
theorem shl_u64 (n : Int) (k : Nat) (hk : k ≤ 64) : shft .shl .u64 n (k : Int) = n * 2 ^ k % 18446744073709551616 := by
  show IntKind.u64.wrap (n * 2 ^ (min (k : Int).toNat 64)) = _
  have : min (k : Int).toNat 64 = k := by omega
  rw [this, wu64]
/-- A byte over a smaller number. -/
theorem orByte {w b : Int} (k : Nat) (hw0 : 0 ≤ w) (hw : w < 2 ^ k) (hb : IsByte b) (hk : k ≤ 56) : Vx.bits .or .u64 w (shft .shl .u64 (IntKind.u64.wrap b) (k : Int)) = w + b * 2 ^ k := by
  obtain ⟨hb0, hb1⟩ := hb
  obtain ⟨n, rfl⟩ := Int.eq_ofNat_of_zero_le hb0
  obtain ⟨m, rfl⟩ := Int.eq_ofNat_of_zero_le hw0
  have e1 : IntKind.u64.wrap (n : Int) = (n : Int) := by rw [wu64]; omega
  have h1 : (2 : Nat) ^ k ≤ 2 ^ 56 := Nat.pow_le_pow_right (by omega) hk
  have h2 : n * 2 ^ k ≤ 255 * 2 ^ 56 := Nat.mul_le_mul (by omega) h1
  have hm : m < 2 ^ k := by exact_mod_cast hw
  have e2 : (n : Int) * 2 ^ k = ((n * 2 ^ k : Nat) : Int) := by simp
  rw [e1, shl_u64 _ _ (by omega), e2]
  have e3 : ((n * 2 ^ k : Nat) : Int) % 18446744073709551616 = ((n * 2 ^ k : Nat) : Int) := by omega
  rw [e3, bits_eq, u64_or_nat _ _ (by omega) (by omega), Nat.or_comm, Nat.mul_comm n, ← Nat.two_pow_add_eq_or_of_lt hm]
  omega
theorem of_ok : conOf.Vc body49 := by
  rw [of_vc]
  intro x hx
  obtain ⟨hb, hl⟩ := (hx : Bs x.G x.p x.l x.c x.d ∧ x.l = 4)
  obtain ⟨k, o, e0, a0, b0⟩ := hb.nth (i := 0) (by omega)
  obtain ⟨k1, o1, e1, a1, b1⟩ := hb.nth (i := 1) (by omega)
  obtain ⟨k2, o2, e2, a2, b2⟩ := hb.nth (i := 2) (by omega)
  obtain ⟨k3, o3, e3, a3, b3⟩ := hb.nth (i := 3) (by omega)
  have no : ∀ {Q : Prop} {c : Int}, decide (c < (x.l : Int)) = false → c < 4 → Q := fun h hc => by
    have := of_decide_eq_false h
    omega
  refine ⟨fun _ => ⟨by omega, fun _ => ⟨k, o, e0, _, a0, fun r hr r1 hr1 r2 hr2 => ⟨fun _ => ⟨by omega, fun _ => ⟨k1, o1, e1, _, a1, fun r3 hr3 r4 hr4 r5 hr5 =>
    ⟨fun _ => ⟨by omega, fun _ => ⟨k2, o2, e2, _, a2, fun r6 hr6 r7 hr7 r8 hr8 => ⟨fun _ => ⟨by omega, fun _ => ⟨k3, o3, e3, _, a3, fun r9 hr9 r10 hr10 r11 hr11 => ⟨fun h4 => ?_, fun _ => ?_⟩⟩⟩, fun h => no h (by omega)⟩⟩⟩, fun h => no h (by omega)⟩⟩⟩, fun h => no h (by omega)⟩⟩⟩, fun h => no h (by omega)⟩
  · have := of_decide_eq_true h4
    omega
  · have g0 : r2 = x.d.getD 0 0 := by
      have := orByte (w := 0) (b := x.d.getD 0 0) 0 (by omega) (by omega) b0 (by omega)
      rw [hr2, hr1, hr]
      simpa using this
    obtain ⟨c0, d0⟩ := b0
    obtain ⟨c1, d1⟩ := id b1
    obtain ⟨c2, d2⟩ := id b2
    have g1 : r5 = r2 + x.d.getD 1 0 * 256 := by rw [hr5, hr4, hr3]; exact orByte 8 (by omega) (by omega) b1 (by omega)
    have g2 : r8 = r5 + x.d.getD 2 0 * 65536 := by rw [hr8, hr7, hr6]; exact orByte 16 (by omega) (by omega) b2 (by omega)
    have g3 : r11 = r8 + x.d.getD 3 0 * 16777216 := by rw [hr11, hr10, hr9]; exact orByte 24 (by omega) (by omega) b3 (by omega)
    refine ⟨r11, ?_, rfl, Sub.refl _, trivial⟩
    show r11 = _
    rw [g3, g2, g1, g0]
theorem spec49 : SpecOk Tryz.prog 49 conOf.spec :=
  Con.sound (body_ok (fun f => noSpec_ok _ f) (iter_ways 5) (fun vs w => Tryz.call49 vs w)) of_ok
end Sw
end
section
/- save.reader.text, event: what they do. -/
namespace Sw
open Go Go.Proofs Vx

def HasText (d : List Int) : Prop := ∃ t rest : List Int, t.length < 18446744073709551616 ∧ d = textB t ++ rest
structure TextRY where
  p : Option Addr
  l : Nat
  c : Nat
  d : List Int
  bad : Bool
  tp : Option Addr
  tl : Nat
  tc : Nat
  td : List Int
  G : Nat → Option Obj
def RTextPost (x : RdrX) (y : TextRY) : Prop := Sub x.G y.G ∧ Bs y.G y.p y.l y.c y.d ∧ y.l ≤ x.l ∧ Bs y.G y.tp y.tl y.tc y.td ∧ y.tl ≤ x.l ∧
  ((y.bad = true ∧ (x.bad = true ∨ ¬ HasText x.d)) ∨ (y.bad = x.bad ∧ x.d = textB y.td ++ y.d))
def conRText : Con where
  X := RdrX
  n := 1
  args _ := [.ptr 0 (.lit 0)]
  heap x := [(0, .cells (rdrRow x.p x.l x.c x.bad) 90 false)]
  G x := x.G
  pre x := RdrOk x
  Y := TextRY
  m := 1
  post x y := RTextPost x y
  res _ y := .gsl y.tp (.v y.tl) (.v y.tc)
  heap' _ y := [(0, .cells (rdrRow y.p y.l y.c y.bad) 90 false)]
  G' _ y := y.G
noncomputable def call51 (f : Nat) : SpecT := bif Nat.beq f 50 then conRNum.spec else bif Nat.beq f 75 then (conClone.frz frzClone).spec else noSpec
noncomputable def body51 : SpecT := body call51 (fun _ bx => iter bx 0) 51
def HasEv (d : List Int) : Prop := ∃ (e : Ev) (rest : List Int), IsByte e.k ∧ IsU64 e.a ∧ e.d.length < 18446744073709551616 ∧ d = evB e ++ rest
structure EvRY where
  p : Option Addr
  l : Nat
  c : Nat
  d : List Int
  bad : Bool
  e : Ev
  G : Nat → Option Obj
def REvPost (x : RdrX) (y : EvRY) : Prop := Sub x.G y.G ∧ Bs y.G y.p y.l y.c y.d ∧ y.l ≤ x.l ∧ EvOk y.G y.e ∧ y.e.l ≤ x.l ∧
  ((y.bad = true ∧ (x.bad = true ∨ ¬ HasEv x.d)) ∨ (y.bad = x.bad ∧ IsByte y.e.k ∧ x.d = evB y.e ++ y.d))
def conREv : Con where
  X := RdrX
  n := 1
  args _ := [.ptr 0 (.lit 0)]
  heap x := [(0, .cells (rdrRow x.p x.l x.c x.bad) 90 false)]
  G x := x.G
  pre x := RdrOk x
  Y := EvRY
  m := 1
  post x y := REvPost x y
  res _ y := .agg (.cons (.int .i64 (.v y.e.k)) (.cons (.int .u64 (.v y.e.a)) (.cons (.gsl y.e.p (.v y.e.l) (.v y.e.c)) .nil)))
  heap' _ y := [(0, .cells (rdrRow y.p y.l y.c y.bad) 90 false)]
  G' _ y := y.G
noncomputable def call52 (f : Nat) : SpecT := bif Nat.beq f 50 then conRNum.spec else bif Nat.beq f 51 then conRText.spec else noSpec
noncomputable def body52 : SpecT := body call52 (fun _ bx => iter bx 0) 52
end Sw
end
section
/- What SwRead2's conditions come to, word for word: made by a program. -/
set_option maxRecDepth 100000
set_option linter.unusedVariables false
namespace Sw
open Go Go.Proofs Vx
theorem rtext_vc : (conRText.Vc body51) = (
∀ (x : Sw.RdrX), Sw.conRText.pre x →
 ∃ (x_1 : Sw.RdrX), x_1.p = x.p ∧
 x_1.l = x.l ∧
 x_1.c = x.c ∧
 x_1.bad = x.bad ∧
 Vx.Sub (Sw.conRNum.G x_1) x.G ∧
 Sw.conRNum.pre x_1 ∧
 ∀ (y : Sw.NumY), Sw.conRNum.post x_1 y →
 (y.bad = Bool.true →
 ∃ (y_1 : Sw.TextRY), Sw.conRText.post x y_1 ∧
 y_1.tp = Option.none ∧
 y_1.tl = (0 : Nat) ∧
 y_1.tc = (0 : Nat) ∧
 y_1.p = y.p ∧ y_1.l = y.l ∧ y_1.c = y.c ∧ y_1.bad = Bool.true ∧ Vx.Sub (Sw.conRText.G' x y_1) x_1.G ∧ True) ∧
 (y.bad = Bool.false →
 ∀ (r : Int), r = Go.IntKind.u64.wrap (↑y.l : Int) →
 (Decidable.decide (y.v > r) = Bool.true →
 ∃ (y_1 : Sw.TextRY), Sw.conRText.post x y_1 ∧
 y_1.tp = Option.none ∧
 y_1.tl = (0 : Nat) ∧
 y_1.tc = (0 : Nat) ∧
 y_1.p = y.p ∧ y_1.l = y.l ∧ y_1.c = y.c ∧ y_1.bad = Bool.true ∧ Vx.Sub (Sw.conRText.G' x y_1) x_1.G ∧ True) ∧
 (Decidable.decide (y.v > r) = Bool.false →
 y.l ≤ y.c ∧
 (y.l ≤ y.c →
 ((0 : Int) ≤ y.v ∧ y.v ≤ (↑y.c : Int)) ∧
 ((0 : Int) ≤ y.v ∧ y.v ≤ (↑y.c : Int) →
 ∀ (a' : Option Go.Addr), (a' = if y.c = (0 : Nat) then y.p else Option.map (fun (x : Go.Addr) => x.add (0 : Nat)) y.p) →
 ∃ (x_2 : Sw.BsX), x_2.p = a' ∧
 x_2.l = y.v.toNat - (0 : Nat) ∧
 x_2.c = y.c - (0 : Nat) ∧
 Vx.Sub ((Sw.conClone.frz Sw.frzClone).G x_2) x_1.G ∧
 (Sw.conClone.frz Sw.frzClone).pre x_2 ∧
 ∀ (y_1 : Sw.conClone.Y × Nat), (Sw.conClone.frz Sw.frzClone).post x_2 y_1 →
 y.l ≤ y.c ∧
 (y.l ≤ y.c →
 ((0 : Int) ≤ y.v ∧ y.v ≤ (↑y.l : Int)) ∧
 ((0 : Int) ≤ y.v ∧ y.v ≤ (↑y.l : Int) →
 ∀ (a' : Option Go.Addr), (a' =
 if y.c = y.v.toNat then y.p
 else Option.map (fun (x : Go.Addr) => x.add (y.v.toNat * (1 : Nat))) y.p) →
 ∃ (y_2 : Sw.TextRY), Sw.conRText.post x y_2 ∧
 y_2.tp = Option.some (Go.Addr.mk y_1.snd (0 : Nat) Option.none) ∧
 y_2.tl = y_1.fst.xs.length ∧
 y_2.tc = y_1.fst.xs.length + y_1.fst.vs.length ∧
 y_2.p = a' ∧
 y_2.l = y.l - y.v.toNat ∧
 y_2.c = y.c - y.v.toNat ∧
 y_2.bad = y.bad ∧
 Vx.Sub (Sw.conRText.G' x y_2)
 (Vx.addG y_1.snd (Sw.frzClone.obj x_2 y_1.fst)
 (Sw.conClone.G' x_2 y_1.fst)) ∧
 True))))))) := by kernel_rfl
theorem rev_vc : (conREv.Vc body52) = (
∀ (x : Sw.RdrX), Sw.conREv.pre x →
 ∃ (x_1 : Sw.RdrX), x_1.p = x.p ∧
 x_1.l = x.l ∧
 x_1.c = x.c ∧
 x_1.bad = x.bad ∧
 Vx.Sub (Sw.conRNum.G x_1) x.G ∧
 Sw.conRNum.pre x_1 ∧
 ∀ (y : Sw.NumY), Sw.conRNum.post x_1 y →
 (Decidable.decide (y.v > (255 : Int)) = Bool.true →
 ∀ (r : Int), r = Go.IntKind.i64.wrap y.v →
 ∃ (x_2 : Sw.RdrX), x_2.p = y.p ∧
 x_2.l = y.l ∧
 x_2.c = y.c ∧
 x_2.bad = Bool.true ∧
 Vx.Sub (Sw.conRNum.G x_2) x_1.G ∧
 Sw.conRNum.pre x_2 ∧
 ∀ (y : Sw.NumY), Sw.conRNum.post x_2 y →
 ∃ (x_3 : Sw.RdrX), x_3.p = y.p ∧
 x_3.l = y.l ∧
 x_3.c = y.c ∧
 x_3.bad = y.bad ∧
 Vx.Sub (Sw.conRText.G x_3) x_2.G ∧
 Sw.conRText.pre x_3 ∧
 ∀ (y_1 : Sw.TextRY), Sw.conRText.post x_3 y_1 →
 ∃ (y_2 : Sw.EvRY), Sw.conREv.post x y_2 ∧
 y_2.e.k = r ∧
 y_2.e.a = y.v ∧
 y_2.e.p = y_1.tp ∧
 y_2.e.l = y_1.tl ∧
 y_2.e.c = y_1.tc ∧
 y_2.p = y_1.p ∧
 y_2.l = y_1.l ∧
 y_2.c = y_1.c ∧
 y_2.bad = y_1.bad ∧ Vx.Sub (Sw.conREv.G' x y_2) y_1.G ∧ True) ∧
 (Decidable.decide (y.v > (255 : Int)) = Bool.false →
 ∀ (r : Int), r = Go.IntKind.i64.wrap y.v →
 ∃ (x_2 : Sw.RdrX), x_2.p = y.p ∧
 x_2.l = y.l ∧
 x_2.c = y.c ∧
 x_2.bad = y.bad ∧
 Vx.Sub (Sw.conRNum.G x_2) x_1.G ∧
 Sw.conRNum.pre x_2 ∧
 ∀ (y : Sw.NumY), Sw.conRNum.post x_2 y →
 ∃ (x_3 : Sw.RdrX), x_3.p = y.p ∧
 x_3.l = y.l ∧
 x_3.c = y.c ∧
 x_3.bad = y.bad ∧
 Vx.Sub (Sw.conRText.G x_3) x_2.G ∧
 Sw.conRText.pre x_3 ∧
 ∀ (y_1 : Sw.TextRY), Sw.conRText.post x_3 y_1 →
 ∃ (y_2 : Sw.EvRY), Sw.conREv.post x y_2 ∧
 y_2.e.k = r ∧
 y_2.e.a = y.v ∧
 y_2.e.p = y_1.tp ∧
 y_2.e.l = y_1.tl ∧
 y_2.e.c = y_1.tc ∧
 y_2.p = y_1.p ∧
 y_2.l = y_1.l ∧
 y_2.c = y_1.c ∧
 y_2.bad = y_1.bad ∧ Vx.Sub (Sw.conREv.G' x y_2) y_1.G ∧ True)) := by kernel_rfl
end Sw
end
section
/- save.reader.text and event do what is said. -/
namespace Sw
set_option maxRecDepth 100000
open Go Go.Proofs Vx

theorem numB_wrap (n : Nat) (h : n < 18446744073709551616) : ((n : Int).toNat) = n := by omega
theorem hasNum_of_text {d : List Int} (h : HasText d) : HasNum d := by
  obtain ⟨t, rest, h1, h2⟩ := h
  exact ⟨t.length, t ++ rest, h1, by rw [h2, textB, List.append_assoc]⟩
theorem a0_eq {p a : Option Addr} {c : Nat} (h : a = if c = 0 then p else p.map fun x => x.add 0) : a = p := by
  rw [h]
  split
  · rfl
  · cases p with
    | none => rfl
    | some x => cases x; simp [Addr.add]
theorem bs_nil (G : Nat → Option Obj) : Bs G none 0 0 [] := ⟨rfl, Nat.le_refl _, .inl ⟨rfl, rfl⟩, fun b hb => by cases hb⟩
theorem rtext_ok : conRText.Vc body51 := by
  rw [rtext_vc]
  intro x hx
  obtain ⟨hb, hl⟩ := (hx : RdrOk x)
  refine ⟨x, rfl, rfl, rfl, rfl, Sub.refl _, ⟨hb, hl⟩, fun y hy => ?_⟩
  obtain ⟨k1, k2, ⟨k3, k3'⟩, k4⟩ := (hy : RNumPost x y)
  have hcap := k1.cap
  have bad : (x.bad = true ∨ ¬ HasText x.d) → ∃ (y_1 : Sw.TextRY), Sw.conRText.post x y_1 ∧ y_1.tp = Option.none ∧ y_1.tl = (0 : Nat) ∧ y_1.tc = (0 : Nat) ∧ y_1.p = y.p ∧ y_1.l = y.l ∧ y_1.c = y.c ∧ y_1.bad = Bool.true ∧ Vx.Sub (Sw.conRText.G' x y_1) x.G ∧ True := by
    intro h
    exact ⟨⟨y.p, y.l, y.c, y.d, true, none, 0, 0, [], x.G⟩, ⟨Sub.refl _, k1, k2, bs_nil _, Nat.zero_le _, .inl ⟨rfl, h⟩⟩, rfl, rfl, rfl, rfl, rfl, rfl, rfl, Sub.refl _, trivial⟩
  refine ⟨fun hbad => ?_, fun hgood r hr => ⟨fun hgt => ?_, fun hle => ?_⟩⟩
  · rcases k4 with ⟨_, h | h⟩ | ⟨h, _⟩
    · exact bad (.inl h)
    · exact bad (.inr fun hn => h (hasNum_of_text hn))
    · exact bad (.inl (by rw [← h]; exact hbad))
  · have hgt := of_decide_eq_true hgt
    rcases k4 with ⟨h, _⟩ | ⟨_, h⟩
    · rw [hgood] at h; cases h
    · refine bad (.inr fun ⟨t, rest, g1, g2⟩ => ?_)
      rw [textB, List.append_assoc, h] at g2
      obtain ⟨g3, g4⟩ := num_inj (by omega) g1 g2
      have := k1.len
      rw [g4] at this
      simp only [List.length_append] at this
      rw [wu64] at hr
      omega
  · have hle := of_decide_eq_false hle
    rw [wu64] at hr
    refine ⟨by omega, fun _ => ⟨by omega, fun _ a ha => ?_⟩⟩
    have := a0_eq ha
    subst this
    have hvl : y.v.toNat ≤ y.l := by omega
    have hct := k1.take hvl
    refine ⟨⟨y.p, y.v.toNat, y.c, y.d.take y.v.toNat, x.G⟩, rfl, by simp, by simp, Sub.refl _, ⟨hct, ?_⟩, fun y1 hy1 => ⟨by omega, fun _ => ⟨by omega, fun _ a' ha' => ?_⟩⟩⟩
    · show y.v.toNat ≤ 1000000; omega
    · obtain ⟨⟨z1, z2⟩, a⟩ := y1
      obtain ⟨⟨q1, q2⟩, q3⟩ := (hy1 : (z1 = y.d.take y.v.toNat ∧ Cells z2) ∧ x.G a = none)
      have q1 : z1 = y.d.take y.v.toNat := q1
      have hsub : Sub x.G (addG a (.cells (z1.map (Value.int .u8) ++ z2).toArray 5 (0, 0)) x.G) := addG_sub q3
      have hdr := (k1.drop hvl (by simpa using ha')).mono hsub
      have hfz := bs_frz x.G a z1 z2 (fun b hb => k1.byte b (List.mem_of_mem_take (q1 ▸ hb)))
      have hzl : z1.length = y.v.toNat := by rw [q1, List.length_take, k1.len]; omega
      refine ⟨⟨a', y.l - y.v.toNat, y.c - y.v.toNat, y.d.drop y.v.toNat, y.bad, some ⟨a, 0, none⟩, z1.length, z1.length + z2.length, z1, addG a (.cells (z1.map (Value.int .u8) ++ z2).toArray 5 (0, 0)) x.G⟩,
        ⟨hsub, hdr, ?_, hfz, ?_, ?_⟩, rfl, rfl, rfl, rfl, rfl, rfl, rfl, Sub.refl _, trivial⟩
      · show y.l - y.v.toNat ≤ x.l; omega
      · show z1.length ≤ x.l; omega
      · rcases k4 with ⟨h, _⟩ | ⟨h1, h2⟩
        · rw [hgood] at h; cases h
        · refine .inr ⟨h1, ?_⟩
          show x.d = textB z1 ++ y.d.drop y.v.toNat
          rw [textB, hzl, q1, List.append_assoc, List.take_append_drop]
          exact h2
theorem call51_ok (f : Nat) : SpecOk Tryz.prog f (call51 f) := by
  unfold call51
  cases h50 : Nat.beq f 50
  · cases h75 : Nat.beq f 75
    · exact noSpec_ok _ f
    · have := beq_t h75
      subst this
      exact spec75
  · have := beq_t h50
    subst this
    exact spec50
theorem spec51 : SpecOk Tryz.prog 51 conRText.spec :=
  Con.sound (body_ok call51_ok (iter_ways 0) (fun vs w => Tryz.call51 vs w)) rtext_ok

theorem RdrOk.next {x : RdrX} (hl : x.l ≤ 1000000) {y : NumY} (h : RNumPost x y) : RdrOk ⟨y.p, y.l, y.c, y.d, y.bad, x.G⟩ := by
  obtain ⟨k1, k2, _, _⟩ := h
  exact ⟨k1, by show y.l ≤ 1000000; omega⟩
theorem rev_ok : conREv.Vc body52 := by
  rw [rev_vc]
  intro x hx
  obtain ⟨hb, hl⟩ := (hx : RdrOk x)
  refine ⟨x, rfl, rfl, rfl, rfl, Sub.refl _, ⟨hb, hl⟩, fun y hy => ?_⟩
  have hy : RNumPost x y := hy
  obtain ⟨k1, k2, ⟨k3, k3'⟩, k4⟩ := id hy
  have fin : ∀ (bad : Bool) (r : Int), r = IntKind.i64.wrap y.v → (bad = true ∧ 255 < y.v ∨ bad = y.bad ∧ y.v ≤ 255) →
      ∃ (x_2 : Sw.RdrX), x_2.p = y.p ∧ x_2.l = y.l ∧ x_2.c = y.c ∧ x_2.bad = bad ∧ Vx.Sub (Sw.conRNum.G x_2) x.G ∧ Sw.conRNum.pre x_2 ∧ ∀ (y : Sw.NumY), Sw.conRNum.post x_2 y →
      ∃ (x_3 : Sw.RdrX), x_3.p = y.p ∧ x_3.l = y.l ∧ x_3.c = y.c ∧ x_3.bad = y.bad ∧ Vx.Sub (Sw.conRText.G x_3) x_2.G ∧ Sw.conRText.pre x_3 ∧ ∀ (y_1 : Sw.TextRY), Sw.conRText.post x_3 y_1 →
      ∃ (y_2 : Sw.EvRY), Sw.conREv.post x y_2 ∧ y_2.e.k = r ∧ y_2.e.a = y.v ∧ y_2.e.p = y_1.tp ∧ y_2.e.l = y_1.tl ∧ y_2.e.c = y_1.tc ∧ y_2.p = y_1.p ∧ y_2.l = y_1.l ∧ y_2.c = y_1.c ∧ y_2.bad = y_1.bad ∧ Vx.Sub (Sw.conREv.G' x y_2) y_1.G ∧ True := by
    intro bad r hr hbad
    refine ⟨⟨y.p, y.l, y.c, y.d, bad, x.G⟩, rfl, rfl, rfl, rfl, Sub.refl _, RdrOk.next hl hy, fun y2 hy2 => ?_⟩
    have hy2 : RNumPost ⟨y.p, y.l, y.c, y.d, bad, x.G⟩ y2 := hy2
    have hl2 : y.l ≤ 1000000 := by omega
    have hr2 := RdrOk.next (x := ⟨y.p, y.l, y.c, y.d, bad, x.G⟩) hl2 hy2
    obtain ⟨m1, m2, m3, m4⟩ := id hy2
    have m2 : y2.l ≤ y.l := m2
    refine ⟨⟨y2.p, y2.l, y2.c, y2.d, y2.bad, x.G⟩, rfl, rfl, rfl, rfl, Sub.refl _, hr2, fun y3 hy3 => ?_⟩
    obtain ⟨n1, n2, n3, n4, n5, n6⟩ := (hy3 : RTextPost ⟨y2.p, y2.l, y2.c, y2.d, y2.bad, x.G⟩ y3)
    have n3 : y3.l ≤ y2.l := n3
    have n5 : y3.tl ≤ y2.l := n5
    have hwr : -9223372036854775808 ≤ r ∧ r < 9223372036854775808 := by
      rw [hr]
      simp only [IntKind.wrap, IntKind.bits, IntKind.signed]
      simp
      split <;> omega
    refine ⟨⟨y3.p, y3.l, y3.c, y3.d, y3.bad, ⟨r, y2.v, y3.tp, y3.tl, y3.tc, y3.td⟩, y3.G⟩, ⟨n1, n2, ?_, ⟨hwr, m3, n4⟩, ?_, ?_⟩, rfl, rfl, rfl, rfl, rfl, rfl, rfl, rfl, rfl, Sub.refl _, trivial⟩
    · show y3.l ≤ x.l; omega
    · show y3.tl ≤ x.l; omega
    · -- what the pieces come to
      show (y3.bad = true ∧ (x.bad = true ∨ ¬ HasEv x.d)) ∨ (y3.bad = x.bad ∧ IsByte r ∧ x.d = evB ⟨r, y2.v, y3.tp, y3.tl, y3.tc, y3.td⟩ ++ y3.d)
      have no1 : ¬ HasNum x.d → ¬ HasEv x.d := fun h ⟨e, rest, e1, e2, e3, e4⟩ => by
        obtain ⟨e1, e1'⟩ := e1
        refine h ⟨(IntKind.u64.wrap e.k).toNat, _, ?_, by rw [e4, evB, List.append_assoc]⟩
        rw [wu64]; omega
      have step1 : ∀ (e : Ev) (rest : List Int), IsByte e.k → IsU64 e.a → e.d.length < 18446744073709551616 → x.d = evB e ++ rest → x.d = numB 10 y.v.toNat ++ y.d →
          y.v = e.k ∧ y.d = numB 10 e.a.toNat ++ (textB e.d ++ rest) := by
        intro e rest e1 e2 e3 e4 e5
        obtain ⟨e1, e1'⟩ := e1
        rw [e5, evB, List.append_assoc, List.append_assoc] at e4
        have hw : IntKind.u64.wrap e.k = e.k := by rw [wu64]; omega
        rw [hw] at e4
        obtain ⟨f1, f2⟩ := num_inj (by omega) (by omega) e4
        exact ⟨by omega, f2⟩
      rcases n6 with ⟨g1, g2⟩ | ⟨g1, g2⟩
      · refine .inl ⟨g1, ?_⟩
        by_cases hxb : x.bad = true
        · exact .inl hxb
        · refine .inr fun hev => ?_
          obtain ⟨e, rest, e1, e2, e3, e4⟩ := id hev
          rcases k4 with ⟨q1, q2 | q2⟩ | ⟨q1, q2⟩
          · exact hxb q2
          · exact no1 q2 hev
          · obtain ⟨f1, f2⟩ := step1 e rest e1 e2 e3 e4 q2
            obtain ⟨e1, e1'⟩ := e1
            have hb0 : bad = false := by
              rcases hbad with ⟨_, h⟩ | ⟨h, _⟩
              · omega
              · rw [h, q1]; simpa using hxb
            rcases m4 with ⟨p1, p2 | p2⟩ | ⟨p1, p2⟩
            · rw [hb0] at p2; cases p2
            · exact p2 ⟨e.a.toNat, _, by have := e2.1; have := e2.2; omega, f2⟩
            · have p1 : y2.bad = bad := p1
              have p2 : y.d = numB 10 y2.v.toNat ++ y2.d := p2
              rw [p2] at f2
              obtain ⟨_, f4⟩ := num_inj (by have := m3.1; have := m3.2; omega) (by have := e2.1; have := e2.2; omega) f2
              rcases g2 with g2 | g2
              · have g2 : y2.bad = true := g2
                rw [p1, hb0] at g2; cases g2
              · exact g2 ⟨e.d, rest, e3, f4⟩
      · have g1 : y3.bad = y2.bad := g1
        have g2 : y2.d = textB y3.td ++ y3.d := g2
        rcases m4 with ⟨p1, p2⟩ | ⟨p1, p2⟩
        · refine .inl ⟨by rw [g1]; exact p1, ?_⟩
          by_cases hxb : x.bad = true
          · exact .inl hxb
          · refine .inr fun hev => ?_
            obtain ⟨e, rest, e1, e2, e3, e4⟩ := id hev
            rcases k4 with ⟨q1, q2 | q2⟩ | ⟨q1, q2⟩
            · exact hxb q2
            · exact no1 q2 hev
            · obtain ⟨f1, f2⟩ := step1 e rest e1 e2 e3 e4 q2
              obtain ⟨e1, e1'⟩ := e1
              rcases p2 with p2 | p2
              · have p2 : bad = true := p2
                rcases hbad with ⟨_, h⟩ | ⟨h, _⟩
                · omega
                · rw [p2, q1] at h; exact hxb h.symm
              · exact p2 ⟨e.a.toNat, _, by have := e2.1; have := e2.2; omega, f2⟩
        · have p1 : y2.bad = bad := p1
          have p2 : y.d = numB 10 y2.v.toNat ++ y2.d := p2
          rcases hbad with ⟨h1, h2⟩ | ⟨h1, h2⟩
          · refine .inl ⟨by rw [g1, p1, h1], ?_⟩
            by_cases hxb : x.bad = true
            · exact .inl hxb
            · refine .inr fun hev => ?_
              obtain ⟨e, rest, e1, e2, e3, e4⟩ := id hev
              rcases k4 with ⟨q1, q2 | q2⟩ | ⟨q1, q2⟩
              · exact hxb q2
              · exact no1 q2 hev
              · obtain ⟨f1, f2⟩ := step1 e rest e1 e2 e3 e4 q2
                have := e1.2
                omega
          · rcases k4 with ⟨q1, q2⟩ | ⟨q1, q2⟩
            · refine .inl ⟨by rw [g1, p1, h1, q1], ?_⟩
              rcases q2 with q2 | q2
              · exact .inl q2
              · exact .inr (no1 q2)
            · have hr' : r = y.v := by rw [hr, w64 _ (by omega) (by omega)]
              refine .inr ⟨by rw [g1, p1, h1, q1], ⟨by omega, by omega⟩, ?_⟩
              rw [evB]
              have hw : IntKind.u64.wrap r = y.v := by rw [hr', wu64]; omega
              simp only [hw]
              rw [List.append_assoc, List.append_assoc, ← g2, ← p2]
              exact q2
  refine ⟨fun hgt r hr => ?_, fun hle r hr => ?_⟩
  · exact fin true r hr (.inl ⟨rfl, of_decide_eq_true hgt⟩)
  · exact fin y.bad r hr (.inr ⟨rfl, by have := of_decide_eq_false hle; omega⟩)
theorem call52_ok (f : Nat) : SpecOk Tryz.prog f (call52 f) := by
  unfold call52
  cases h50 : Nat.beq f 50
  · cases h51 : Nat.beq f 51
    · exact noSpec_ok _ f
    · have := beq_t h51
      subst this
      exact spec51
  · have := beq_t h50
    subst this
    exact spec50
theorem spec52 : SpecOk Tryz.prog 52 conREv.spec :=
  Con.sound (body_ok call52_ok (iter_ways 0) (fun vs w => Tryz.call52 vs w)) rev_ok
end Sw
end
section
/- save.Parse, and the sum and the comparison of bytes that stay: what they do. -/
namespace Sw
open Go Go.Proofs Vx

def sumGL (g : BsX) : LoopS where
  X := IW
  f := 0
  m := 0
  tmps x := [(6, .gsl g.p (.v g.l) (.v g.c)), (7, .int .i64 (.v g.l)), (8, .int .i64 (.v x.i)), (3, .int .u64 (.v x.w))]
  heap x := []
  G x := g.G
  inv x := (x.i ≤ g.l ∧ x.w = sumB (g.d.take x.i)) ∧ Bs g.G g.p g.l g.c g.d ∧ g.l ≤ 1000000
  mea x := g.l - x.i
def conSumG : Con where
  X := BsX
  n := 0
  args x := [.gsl x.p (.v x.l) (.v x.c)]
  heap _ := []
  G x := x.G
  pre x := Bs x.G x.p x.l x.c x.d ∧ x.l ≤ 1000000
  Y := Int
  m := 0
  post x y := y = sumB x.d
  res _ y := .int .u64 (.v y)
  heap' _ _ := []
  G' x _ := x.G
noncomputable def body44G : SpecT := body (fun _ => noSpec) (fun _ => famL sumGL) 44

structure TwoBs where
  p : Option Addr
  l : Nat
  c : Nat
  d : List Int
  p2 : Option Addr
  l2 : Nat
  c2 : Nat
  d2 : List Int
  G : Nat → Option Obj
def CmpGPre (g : TwoBs) : Prop := Bs g.G g.p g.l g.c g.d ∧ Bs g.G g.p2 g.l2 g.c2 g.d2 ∧ g.l ≤ 1000000
def cmpGL (g : TwoBs) : LoopS where
  X := Nat
  f := 0
  m := 0
  tmps i := [(0, .gsl g.p (.v g.l) (.v g.c)), (1, .gsl g.p2 (.v g.l2) (.v g.c2)), (5, .int .i64 (.v i))]
  heap i := []
  G i := g.G
  inv i := (i ≤ g.l ∧ g.l = g.l2 ∧ g.d.take i = g.d2.take i) ∧ CmpGPre g
  mea i := g.l - i
def conCmpG : Con where
  X := TwoBs
  n := 0
  args x := [.gsl x.p (.v x.l) (.v x.c), .gsl x.p2 (.v x.l2) (.v x.c2)]
  heap x := []
  G x := x.G
  pre x := CmpGPre x
  Y := Bool
  m := 0
  post x y := y = decide (x.d = x.d2)
  res _ y := .bool (.v y)
  heap' x _ := []
  G' x _ := x.G
noncomputable def body13G : SpecT := body (fun _ => noSpec) (fun _ => famL cmpGL) 13

/-! ### Parse -/
/-- A record that may be written: what its bytes hang on. -/
structure Canon (r : RecX) : Prop where
  ram : IsU64 r.ram
  sec : IsU64 r.sec
  dd : r.dd.length < 18446744073709551616
  id : r.id.length < 18446744073709551616
  name : (bytesOf r.name).length < 18446744073709551616
  el : r.evs.length = r.el ∧ r.el < 18446744073709551616
  ev : ∀ e ∈ r.evs, IsByte e.k ∧ IsU64 e.a ∧ e.d.length < 18446744073709551616
def NoRec (pay : List Int) : Prop := ¬ ∃ r : RecX, Canon r ∧ pay = recB r
/-- Events alike: not where their bytes lie. -/
def EvSame (e f : Ev) : Prop := e.k = f.k ∧ e.a = f.a ∧ e.d = f.d
def EvsSame : List Ev → List Ev → Prop
  | [], [] => True
  | e :: r, f :: s => EvSame e f ∧ EvsSame r s
  | _, _ => False
structure RecSame (r s : RecX) : Prop where
  ram : r.ram = s.ram
  sec : r.sec = s.sec
  locked : r.locked = s.locked
  dd : r.dd = s.dd
  id : r.id = s.id
  name : r.name = s.name
  el : r.el = s.el
  evs : EvsSame r.evs s.evs
/-- A reader's state within a record's bytes. -/
def Cur (pay pre : List Int) (bad : Bool) (d : List Int) (tl : RecX → List Int) (Q : RecX → Prop) : Prop :=
  (bad = true ∧ NoRec pay) ∨ (bad = false ∧ pay = pre ++ d ∧ ∀ r : RecX, Canon r → pay = recB r → d = tl r ∧ Q r)
structure ParY where
  r : RecX
  err : Int
def ParsePost (x : BsX) (y : ParY) : Prop := Sub x.G y.r.G ∧ RecOk y.r ∧ (y.r.dl ≤ x.l ∧ y.r.il ≤ x.l ∧ y.r.name.size ≤ x.l ∧ y.r.el ≤ x.l ∧ ∀ e ∈ y.r.evs, e.l ≤ x.l) ∧
  ((y.err = 0 ∧ (∀ e ∈ y.r.evs, IsByte e.k) ∧ x.d = recB y.r ++ word4 (sumB (recB y.r)) ∧ ∀ r, Canon r → recB y.r = recB r → RecSame y.r r) ∨
   (y.err = 250 ∧ y.r.ram = 0 ∧ y.r.el = 0 ∧ ¬ ∃ r, Canon r ∧ x.d = recB r ++ word4 (sumB (recB r))))
def conParse : Con where
  X := BsX
  n := 0
  args x := [.gsl x.p (.v x.l) (.v x.c)]
  heap _ := []
  G x := x.G
  pre x := Bs x.G x.p x.l x.c x.d ∧ x.l ≤ 30000
  Y := ParY
  m := 1
  post x y := ParsePost x y
  res _ y := .tup (.cons (.agg (recRow y.r)) (.cons (.int .i64 (.v y.err)) .nil))
  heap' _ _ := []
  G' _ y := y.r.G
/-- The record while it is read: its events lie in a list of its own. -/
def recRowO (x : RecX) (id : Nat) : SV :=
  .cons (.int .u64 (.v x.ram)) (.cons (.int .u64 (.v x.sec)) (.cons (.bool (.v x.locked)) (.cons (.gsl x.dp (.v x.dl) (.v x.dc))
    (.cons (.gsl x.ip (.v x.il) (.v x.ic)) (.cons (.str (.v x.name)) (.cons (.slice id (.lit 0) (.v x.el) (.v x.ec)) .nil))))))
def evObj (es : List Ev) (vs : List Value) : SObj := .cells (.cons (.blob (.v (3 * es.length)) (evsCells es)) (.cons (.blob (.v vs.length) vs) .nil)) 74 false
structure ParZ where
  r : RecX
  vs : List Value
structure RecPre (x : RecX) : Prop where
  ram : IsU64 x.ram
  sec : IsU64 x.sec
  disk : Bs x.G x.dp x.dl x.dc x.dd
  image : Bs x.G x.ip x.il x.ic x.id
  evLen : x.evs.length = x.el
  evs : ∀ e ∈ x.evs, EvOk x.G e
  name : x.name.size < 9223372036854775808
  evBig : x.el < 9223372036854775808
def ZPost (x : BsX) (r : RecX) : Prop := Sub x.G r.G ∧ RecPre r ∧ (r.dl ≤ x.l ∧ r.il ≤ x.l ∧ r.name.size ≤ x.l ∧ r.el ≤ x.l ∧ ∀ e ∈ r.evs, e.l ≤ x.l) ∧
  (∀ e ∈ r.evs, IsByte e.k) ∧ x.d = recB r ++ word4 (sumB (recB r)) ∧ ∀ s, Canon s → recB r = recB s → RecSame r s
theorem EvOk.mono {G G' : Nat → Option Obj} {e : Ev} (h : EvOk G e) (hG : Sub G G') : EvOk G' e := ⟨h.k, h.a, h.d.mono hG⟩
def withEp (r : RecX) (a : Nat) (vs : List Value) : RecX := { r with ep := some ⟨a, 0, none⟩, G := addG a (.cells (evsCells r.evs ++ vs).toArray 74 (0, 0)) r.G }
theorem withEp_ok {x : BsX} {r : RecX} {a : Nat} {vs : List Value} (h : ZPost x r) (hG : r.G a = none) : ParsePost x ⟨withEp r a vs, 0⟩ := by
  obtain ⟨h1, h2, h3, h4, h5, h6⟩ := h
  have hs : Sub r.G (withEp r a vs).G := addG_sub hG
  refine ⟨h1.trans hs, ⟨h2.ram, h2.sec, h2.disk.mono hs, h2.image.mono hs, h2.evLen, ?_, fun e he => (h2.evs e he).mono hs, h2.name, h2.evBig⟩, h3, .inl ⟨rfl, h4, h5, fun s hs he => ?_⟩⟩
  · refine .inr ⟨a, 0, rfl, _, _, _, addG_self _ _ _, fun j v hj => ?_⟩
    have hlt : j < (evsCells r.evs).length := (List.getElem?_eq_some_iff.1 hj).1
    simp only [List.getElem?_toArray, Nat.zero_add]
    rw [List.getElem?_append_left hlt]
    exact hj
  · have g := h6 s hs he
    exact ⟨g.ram, g.sec, g.locked, g.dd, g.id, g.name, g.el, g.evs⟩
structure ParG where
  x : BsX
  pre : List Int
  d : List Int
  n : Int
  lk : Int
  r : RecX
structure ParI where
  i : Int
  p : Option Addr
  l : Nat
  c : Nat
  d : List Int
  bad : Bool
  es : List Ev
  ec : Nat
  vs : List Value
  G : Nat → Option Obj
/-- What is known of the record ahead of its events. -/
structure HeadOk (g : ParG) : Prop where
  sub : Sub g.x.G g.r.G
  l : g.x.l ≤ 30000
  ram : IsU64 g.r.ram
  sec : IsU64 g.r.sec
  disk : Bs g.r.G g.r.dp g.r.dl g.r.dc g.r.dd
  image : Bs g.r.G g.r.ip g.r.il g.r.ic g.r.id
  small : g.r.dl ≤ g.x.l ∧ g.r.il ≤ g.x.l ∧ g.r.name.size ≤ g.x.l
  n : IsU64 g.n
  locked : g.r.locked = (g.lk == 1)
  lk : IsU64 g.lk
  pre : g.lk ≤ 1 → g.pre = headB { g.r with el := g.n.toNat }
  sum : g.x.d = (g.pre ++ g.d) ++ word4 (sumB (g.pre ++ g.d))
  cur : Cur (g.pre ++ g.d) g.pre false g.d (fun r => evsB r.evs) fun r => r.ram = g.r.ram ∧ r.sec = g.r.sec ∧ (cond r.locked 1 0 : Int) = g.lk ∧ r.dd = g.r.dd ∧ r.id = g.r.id ∧ bytesOf r.name = bytesOf g.r.name ∧ (r.el : Int) = g.n
/-- What is known while events are read. -/
structure ParSem (g : ParG) (i : Int) (p : Option Addr) (l c : Nat) (d : List Int) (bad : Bool) (es : List Ev) (G : Nat → Option Obj) : Prop where
  head : HeadOk g
  sub : Sub g.r.G G
  bs : Bs G p l c d
  evs : ∀ e ∈ es, EvOk G e ∧ e.l ≤ g.x.l
  hi : i = es.length
  le : i ≤ g.n
  hl : l ≤ g.x.l
  used : bad = false → l + 3 * es.length ≤ g.x.l
  few : es.length ≤ 10001
  sem : (bad = true ∧ NoRec (g.pre ++ g.d)) ∨ (bad = false ∧ (∀ e ∈ es, IsByte e.k) ∧ g.d = evsB es ++ d ∧ ∀ r, Canon r → g.pre ++ g.d = recB r → EvsSame es (r.evs.take es.length) ∧ d = evsB (r.evs.drop es.length))
def ParInv (g : ParG) (z : ParI) : Prop := ParSem g z.i z.p z.l z.c z.d z.bad z.es z.G ∧ Cells z.vs ∧ z.es.length ≤ z.ec ∧ z.ec * 3 = 3 * z.es.length + z.vs.length
def parL (g : ParG) : LoopS where
  X := ParI
  f := 3
  m := 4
  tmps z := [(2, .ptr 2 (.lit 0)), (4, .ptr 0 (.lit 0)), (6, .int .u64 (.v g.lk)), (7, .ptr 1 (.lit 0)), (8, .int .u64 (.v g.n)), (9, .int .u64 (.v z.i))]
  heap z := [(0, .cells (rdrRow z.p z.l z.c z.bad) 90 false), (1, .cells (recRowO { g.r with el := z.es.length, ec := z.ec } 3) 28 false), (3, evObj z.es z.vs)]
  G z := z.G
  inv z := ParInv g z
  mea z := (g.n - z.i).toNat
/-- The three texts. -/
structure P9X where
  x : RdrX
  ram : Int
  sec : Int
  locked : Bool
  lk : Int
structure P9Y where
  p : Option Addr
  l : Nat
  c : Nat
  d : List Int
  bad : Bool
  dp : Option Addr
  dl : Nat
  dc : Nat
  dd : List Int
  ip : Option Addr
  il : Nat
  ic : Nat
  id : List Int
  name : ByteArray
  G : Nat → Option Obj
def HasText3 (d : List Int) : Prop := ∃ a b c rest : List Int, a.length < 18446744073709551616 ∧ b.length < 18446744073709551616 ∧ c.length < 18446744073709551616 ∧ d = textB a ++ (textB b ++ (textB c ++ rest))
def P9Post (x : RdrX) (y : P9Y) : Prop := Sub x.G y.G ∧ Bs y.G y.p y.l y.c y.d ∧ y.l ≤ x.l ∧ Bs y.G y.dp y.dl y.dc y.dd ∧ y.dl ≤ x.l ∧ Bs y.G y.ip y.il y.ic y.id ∧ y.il ≤ x.l ∧ y.name.size ≤ x.l ∧
  ((y.bad = true ∧ (x.bad = true ∨ ¬ HasText3 x.d)) ∨ (y.bad = x.bad ∧ x.d = textB y.dd ++ (textB y.id ++ (textB (bytesOf y.name) ++ y.d))))
def cfgRow (ram sec : Int) (locked : Bool) (d i n : SV) : SV := .cons (.int .u64 (.v ram)) (.cons (.int .u64 (.v sec)) (.cons (.bool (.v locked)) (.cons d (.cons i (.cons n .nil)))))
def par9P : PieceS where
  X := P9X
  n := 3
  tin x := [(2, .ptr 2 (.lit 0)), (4, .ptr 0 (.lit 0)), (5, .ptr 1 (.lit 0)), (6, .int .u64 (.v x.lk))]
  heap x := [(0, .cells (rdrRow x.x.p x.x.l x.x.c x.x.bad) 90 false), (1, .cells (cfgRow x.ram x.sec x.locked .nilslice .nilslice (.str (.lit ByteArray.empty))) 25 false)]
  G x := x.x.G
  pre x := RdrOk x.x
  Y := P9Y
  m := 3
  post x y := P9Post x.x y
  tout x _ := [(2, .ptr 2 (.lit 0)), (4, .ptr 0 (.lit 0)), (5, .ptr 1 (.lit 0)), (6, .int .u64 (.v x.lk))]
  heap' x y := [(0, .cells (rdrRow y.p y.l y.c y.bad) 90 false), (1, .cells (cfgRow x.ram x.sec x.locked (.gsl y.dp (.v y.dl) (.v y.dc)) (.gsl y.ip (.v y.il) (.v y.ic)) (.str (.v y.name))) 25 false)]
  G' _ y := y.G
noncomputable def ways17 : Ways where
  loop _ := peel (famL parL)
  reg i := bif Nat.beq i 9 then par9P.twin else fun bx => bx
noncomputable def call17 (f : Nat) : SpecT := bif Nat.beq f 49 then conOf.spec else bif Nat.beq f 44 then conSumG.spec else bif Nat.beq f 50 then conRNum.spec else
  bif Nat.beq f 51 then conRText.spec else bif Nat.beq f 52 then conREv.spec else noSpec
noncomputable def body17 : SpecT := bodyW call17 ways17 17
def frzPar : FrzTo conParse where
  Y := ParZ
  post x z := ZPost x z.r
  res _ z := .tup (.cons (.agg (recRowO z.r 0)) (.cons (.int .i64 (.lit 0)) .nil))
  G' _ z := z.r.G
  id := 0
  o _ z := evObj z.r.evs z.vs
  rest _ _ := []
  to _ z a := ⟨withEp z.r a z.vs, 0⟩
  obj _ z := .cells (evsCells z.r.evs ++ z.vs).toArray 74 (0, 0)
  lo := Nat.le_refl _
  hi := Nat.lt_succ_self _
  other _ _ e he := by cases he
  den _ z ρ β := by simp [evObj, SObj.ren, SV.ren, SObj.den, SV.vals, fzOf]
  val _ z ρ β := by simp [conParse, recRow, recRowO, withEp, SV.ren, SV.val, SV.vals, NE.den, Off.den, IE.den, BE.den, SE.den]
  one _ _ _ := rfl
  wf _ _ _ n h := by simp [conParse, recRow, SV.wf]
  toHeap _ _ _ := rfl
  toG _ _ _ := rfl
  toPost x z a h hG := withEp_ok h hG
end Sw
end
section
/- What SwParse's conditions come to, word for word: made by a program. -/
set_option maxRecDepth 100000
set_option linter.unusedVariables false
namespace Sw
open Go Go.Proofs Vx
theorem sumG_vc : (conSumG.Vc body44G) = (
∀ (x : Sw.BsX), Sw.conSumG.pre x →
 ∃ (g : Sw.BsX), ∃ (x0 : Sw.IW), g.p = x.p ∧
 g.l = x.l ∧
 g.c = x.c ∧
 (↑g.l : Int) = (↑x.l : Int) ∧
 (↑x0.i : Int) = (0 : Int) ∧
 x0.w = (2166136261 : Int) ∧
 Vx.Sub ((Sw.sumGL g).G x0) x.G ∧
 (Sw.sumGL g).inv x0 ∧
 ∀ (x_1 : Sw.IW), (Sw.sumGL g).inv x_1 →
 ∀ (d : Nat → Go.Value), (Decidable.decide ((↑x_1.i : Int) < (↑g.l : Int)) = Bool.true →
 ((0 : Int) ≤ (↑x_1.i : Int) ∧ (↑x_1.i : Int) < (↑g.l : Int)) ∧
 ((0 : Int) ≤ (↑x_1.i : Int) ∧ (↑x_1.i : Int) < (↑g.l : Int) →
 ∃ (b : Nat), ∃ (o : Nat), g.p = Option.some (Go.Addr.mk b o Option.none) ∧
 ∃ (x : Int), Vx.Rd g.G b (o + (↑x_1.i : Int).toNat * (1 : Nat)) [Go.Value.int Go.IntKind.u8 x] ∧
 ∀ (r : Int), r = Go.IntKind.u64.wrap x →
 ∀ (r_1 : Int), r_1 = Vx.bits Go.BinOp.xor Go.IntKind.u64 x_1.w r →
 ∀ (r : Int), r = Go.IntKind.u64.wrap (r_1 * (16777619 : Int)) →
 ∀ (r_2 : Int), r_2 = Vx.bits Go.BinOp.and Go.IntKind.u64 r (4294967295 : Int) →
 ∀ (r : Int), r = Go.IntKind.i64.wrap ((↑x_1.i : Int) + (1 : Int)) →
 ∃ (x' : Sw.IW), (Sw.sumGL g).inv x' ∧
 (Sw.sumGL g).mea x' < (Sw.sumGL g).mea x_1 ∧
 g.p = g.p ∧
 g.l = g.l ∧
 g.c = g.c ∧
 (↑g.l : Int) = (↑g.l : Int) ∧
 (↑x'.i : Int) = r ∧ x'.w = r_2 ∧ Vx.Sub ((Sw.sumGL g).G x') g.G ∧ True)) ∧
 (Decidable.decide ((↑x_1.i : Int) < (↑g.l : Int)) = Bool.false →
 ∃ (y : Int), Sw.conSumG.post x y ∧ y = x_1.w ∧ Vx.Sub (Sw.conSumG.G' x y) g.G ∧ True)) := by kernel_rfl
theorem cmpG_vc : (conCmpG.Vc body13G) = (
∀ (x : Sw.TwoBs), Sw.conCmpG.pre x →
 (((↑x.l : Int) != (↑x.l2 : Int)) = Bool.true → ∃ (y : Bool), Sw.conCmpG.post x y ∧ y = Bool.false ∧ Vx.Sub (Sw.conCmpG.G' x y) x.G ∧ True) ∧
 (((↑x.l : Int) != (↑x.l2 : Int)) = Bool.false →
 ∃ (g : Sw.TwoBs), ∃ (x0 : Nat), g.p = x.p ∧
 g.l = x.l ∧
 g.c = x.c ∧
 g.p2 = x.p2 ∧
 g.l2 = x.l2 ∧
 g.c2 = x.c2 ∧
 (↑x0 : Int) = (0 : Int) ∧
 Vx.Sub ((Sw.cmpGL g).G x0) x.G ∧
 (Sw.cmpGL g).inv x0 ∧
 ∀ (x_1 : Nat), (Sw.cmpGL g).inv x_1 →
 ∀ (d : Nat → Go.Value), (Decidable.decide ((↑x_1 : Int) < (↑g.l : Int)) = Bool.true →
 ((0 : Int) ≤ (↑x_1 : Int) ∧ (↑x_1 : Int) < (↑g.l : Int)) ∧
 ((0 : Int) ≤ (↑x_1 : Int) ∧ (↑x_1 : Int) < (↑g.l : Int) →
 ∃ (b : Nat), ∃ (o : Nat), g.p = Option.some (Go.Addr.mk b o Option.none) ∧
 ∃ (x_2 : Int), Vx.Rd g.G b (o + (↑x_1 : Int).toNat * (1 : Nat)) [Go.Value.int Go.IntKind.u8 x_2] ∧
 ((0 : Int) ≤ (↑x_1 : Int) ∧ (↑x_1 : Int) < (↑g.l2 : Int)) ∧
 ((0 : Int) ≤ (↑x_1 : Int) ∧ (↑x_1 : Int) < (↑g.l2 : Int) →
 ∃ (b : Nat), ∃ (o : Nat), g.p2 = Option.some (Go.Addr.mk b o Option.none) ∧
 ∃ (x_3 : Int), Vx.Rd g.G b (o + (↑x_1 : Int).toNat * (1 : Nat)) [Go.Value.int Go.IntKind.u8 x_3] ∧
 ((x_2 != x_3) = Bool.true →
 ∃ (y : Bool), Sw.conCmpG.post x y ∧ y = Bool.false ∧ Vx.Sub (Sw.conCmpG.G' x y) g.G ∧ True) ∧
 ((x_2 != x_3) = Bool.false →
 ∀ (r : Int), r = Go.IntKind.i64.wrap ((↑x_1 : Int) + (1 : Int)) →
 ∃ (x' : Nat), (Sw.cmpGL g).inv x' ∧
 (Sw.cmpGL g).mea x' < (Sw.cmpGL g).mea x_1 ∧
 g.p = g.p ∧
 g.l = g.l ∧
 g.c = g.c ∧
 g.p2 = g.p2 ∧
 g.l2 = g.l2 ∧
 g.c2 = g.c2 ∧
 (↑x' : Int) = r ∧ Vx.Sub ((Sw.cmpGL g).G x') g.G ∧ True)))) ∧
 (Decidable.decide ((↑x_1 : Int) < (↑g.l : Int)) = Bool.false →
 ∃ (y : Bool), Sw.conCmpG.post x y ∧ y = Bool.true ∧ Vx.Sub (Sw.conCmpG.G' x y) g.G ∧ True))) := by kernel_rfl
theorem parse_vc : (conParse.VcAlt frzPar body17) = (
∀ (x : Sw.BsX), Sw.conParse.pre x →
 (Decidable.decide ((↑x.l : Int) < (4 : Int)) = Bool.true →
 (∃ (y : Sw.ParY), Sw.conParse.post x y ∧
 y.r.ram = (0 : Int) ∧
 y.r.sec = (0 : Int) ∧
 y.r.locked = Bool.false ∧
 y.r.dp = Option.none ∧
 y.r.dl = (0 : Nat) ∧
 y.r.dc = (0 : Nat) ∧
 y.r.ip = Option.none ∧
 y.r.il = (0 : Nat) ∧
 y.r.ic = (0 : Nat) ∧
 y.r.name = ByteArray.mk #[] ∧
 y.r.ep = Option.none ∧
 y.r.el = (0 : Nat) ∧ y.r.ec = (0 : Nat) ∧ y.err = (250 : Int) ∧ Vx.Sub (Sw.conParse.G' x y) x.G ∧ True) ∨
 ∃ (y : Sw.frzPar.Y), Sw.frzPar.post x y ∧
 y.r.ram = (0 : Int) ∧
 y.r.sec = (0 : Int) ∧
 y.r.locked = Bool.false ∧
 y.r.dp = Option.none ∧
 y.r.dl = (0 : Nat) ∧
 y.r.dc = (0 : Nat) ∧ y.r.ip = Option.none ∧ y.r.il = (0 : Nat) ∧ y.r.ic = (0 : Nat) ∧ y.r.name = ByteArray.mk #[] ∧ False) ∧
 (Decidable.decide ((↑x.l : Int) < (4 : Int)) = Bool.false →
 ∀ (r : Int), r = Go.IntKind.i64.wrap ((↑x.l : Int) - (4 : Int)) →
 x.l ≤ x.c ∧
 (x.l ≤ x.c →
 ((0 : Int) ≤ r ∧ r ≤ (↑x.l : Int)) ∧
 ((0 : Int) ≤ r ∧ r ≤ (↑x.l : Int) →
 ∀ (a' : Option Go.Addr), (a' = if x.c = r.toNat then x.p else Option.map (fun (x : Go.Addr) => x.add (r.toNat * (1 : Nat))) x.p) →
 ∀ (r_1 : Int), r_1 = Go.IntKind.i64.wrap ((↑x.l : Int) - (4 : Int)) →
 x.l ≤ x.c ∧
 (x.l ≤ x.c →
 ((0 : Int) ≤ r_1 ∧ r_1 ≤ (↑x.c : Int)) ∧
 ((0 : Int) ≤ r_1 ∧ r_1 ≤ (↑x.c : Int) →
 ∀ (a'_1 : Option Go.Addr), (a'_1 = if x.c = (0 : Nat) then x.p else Option.map (fun (x : Go.Addr) => x.add (0 : Nat)) x.p) →
 ∃ (x_1 : Sw.BsX), x_1.p = a' ∧
 x_1.l = x.l - r.toNat ∧
 x_1.c = x.c - r.toNat ∧
 Vx.Sub (Sw.conOf.G x_1) x.G ∧
 Sw.conOf.pre x_1 ∧
 ∀ (y : Int), Sw.conOf.post x_1 y →
 ∃ (x_2 : Sw.BsX), x_2.p = a'_1 ∧
 x_2.l = r_1.toNat - (0 : Nat) ∧
 x_2.c = x.c - (0 : Nat) ∧
 Vx.Sub (Sw.conSumG.G x_2) x_1.G ∧
 Sw.conSumG.pre x_2 ∧
 ∀ (y_1 : Int), Sw.conSumG.post x_2 y_1 →
 ((y != y_1) = Bool.true →
 (∃ (y : Sw.ParY), Sw.conParse.post x y ∧
 y.r.ram = (0 : Int) ∧
 y.r.sec = (0 : Int) ∧
 y.r.locked = Bool.false ∧
 y.r.dp = Option.none ∧
 y.r.dl = (0 : Nat) ∧
 y.r.dc = (0 : Nat) ∧
 y.r.ip = Option.none ∧
 y.r.il = (0 : Nat) ∧
 y.r.ic = (0 : Nat) ∧
 y.r.name = ByteArray.mk #[] ∧
 y.r.ep = Option.none ∧
 y.r.el = (0 : Nat) ∧
 y.r.ec = (0 : Nat) ∧
 y.err = (250 : Int) ∧
 Vx.Sub (Sw.conParse.G' x y) x_2.G ∧ True) ∨
 ∃ (y : Sw.frzPar.Y), Sw.frzPar.post x y ∧
 y.r.ram = (0 : Int) ∧
 y.r.sec = (0 : Int) ∧
 y.r.locked = Bool.false ∧
 y.r.dp = Option.none ∧
 y.r.dl = (0 : Nat) ∧
 y.r.dc = (0 : Nat) ∧
 y.r.ip = Option.none ∧
 y.r.il = (0 : Nat) ∧
 y.r.ic = (0 : Nat) ∧ y.r.name = ByteArray.mk #[] ∧ False) ∧
 ((y != y_1) = Bool.false →
 ∀ (r : Int), r = Go.IntKind.i64.wrap ((↑x.l : Int) - (4 : Int)) →
 x.l ≤ x.c ∧
 (x.l ≤ x.c →
 ((0 : Int) ≤ r ∧ r ≤ (↑x.c : Int)) ∧
 ((0 : Int) ≤ r ∧ r ≤ (↑x.c : Int) →
 ∀ (a' : Option Go.Addr), (a' =
 if x.c = (0 : Nat) then x.p
 else Option.map (fun (x : Go.Addr) => x.add (0 : Nat)) x.p) →
 ∃ (x_3 : Sw.RdrX), x_3.p = a' ∧
 x_3.l = r.toNat - (0 : Nat) ∧
 x_3.c = x.c - (0 : Nat) ∧
 x_3.bad = Bool.false ∧
 Vx.Sub (Sw.conRNum.G x_3) x_2.G ∧
 Sw.conRNum.pre x_3 ∧
 ∀ (y : Sw.NumY), Sw.conRNum.post x_3 y →
 ((y.v != (478443366774 : Int)) = Bool.true →
 (∃ (y : Sw.ParY), Sw.conParse.post x y ∧
 y.r.ram = (0 : Int) ∧
 y.r.sec = (0 : Int) ∧
 y.r.locked = Bool.false ∧
 y.r.dp = Option.none ∧
 y.r.dl = (0 : Nat) ∧
 y.r.dc = (0 : Nat) ∧
 y.r.ip = Option.none ∧
 y.r.il = (0 : Nat) ∧
 y.r.ic = (0 : Nat) ∧
 y.r.name =
 ByteArray.mk #[] ∧
 y.r.ep =
 Option.none ∧
 y.r.el =
 (0 : Nat) ∧
 y.r.ec =
 (0 : Nat) ∧
 y.err =
 (250 :
 Int) ∧
 Vx.Sub
 (Sw.conParse.G'
 x y)
 x_3.G ∧
 True) ∨
 ∃ (y : Sw.frzPar.Y), Sw.frzPar.post x y ∧
 y.r.ram = (0 : Int) ∧
 y.r.sec = (0 : Int) ∧
 y.r.locked = Bool.false ∧
 y.r.dp = Option.none ∧
 y.r.dl = (0 : Nat) ∧
 y.r.dc = (0 : Nat) ∧
 y.r.ip = Option.none ∧
 y.r.il = (0 : Nat) ∧
 y.r.ic = (0 : Nat) ∧
 y.r.name =
 ByteArray.mk #[] ∧
 False) ∧
 ((y.v != (478443366774 : Int)) = Bool.false →
 ∃ (x_4 : Sw.RdrX), x_4.p = y.p ∧
 x_4.l = y.l ∧
 x_4.c = y.c ∧
 x_4.bad = y.bad ∧
 Vx.Sub (Sw.conRNum.G x_4) x_3.G ∧
 Sw.conRNum.pre x_4 ∧
 ∀ (y : Sw.NumY), Sw.conRNum.post x_4 y →
 ∃ (x_5 : Sw.RdrX), x_5.p = y.p ∧
 x_5.l = y.l ∧
 x_5.c = y.c ∧
 x_5.bad = y.bad ∧
 Vx.Sub
 (Sw.conRNum.G
 x_5)
 x_4.G ∧
 Sw.conRNum.pre
 x_5 ∧
 ∀
 (y_2 :
 Sw.NumY), Sw.conRNum.post
 x_5
 y_2 →
 ∃ (x_6 :
 Sw.RdrX), x_6.p =
 y_2.p ∧
 x_6.l =
 y_2.l ∧
 x_6.c =
 y_2.c ∧
 x_6.bad =
 y_2.bad ∧
 Vx.Sub
 (Sw.conRNum.G
 x_6)
 x_5.G ∧
 Sw.conRNum.pre
 x_6 ∧
 ∀
 (y_3 :
 Sw.NumY), Sw.conRNum.post
 x_6
 y_3 →
 ∃
 (x_7
 :
 Sw.P9X), x_7.lk =
 y_3.v ∧
 x_7.x.p =
 y_3.p ∧
 x_7.x.l =
 y_3.l ∧
 x_7.x.c =
 y_3.c ∧
 x_7.x.bad =
 y_3.bad ∧
 x_7.ram =
 y.v ∧
 x_7.sec =
 y_2.v ∧
 x_7.locked =
 (y_3.v ==
 (1 :
 Int)) ∧
 ByteArray.empty =
 ByteArray.mk
 #[] ∧
 Vx.Sub
 (Sw.par9P.G
 x_7)
 x_6.G ∧
 Sw.par9P.pre
 x_7 ∧
 (∀
 (d :
 Nat →
 Go.Value), ∃
 (x
 :
 Sw.RdrX), x.p =
 x_7.x.p ∧
 x.l =
 x_7.x.l ∧
 x.c =
 x_7.x.c ∧
 x.bad =
 x_7.x.bad ∧
 Vx.Sub
 (Sw.conRText.G
 x)
 x_7.x.G ∧
 Sw.conRText.pre
 x ∧
 ∀
 (y :
 Sw.TextRY), Sw.conRText.post
 x
 y →
 ∃
 (x
 :
 Sw.RdrX), x.p =
 y.p ∧
 x.l =
 y.l ∧
 x.c =
 y.c ∧
 x.bad =
 y.bad ∧
 Vx.Sub
 (Sw.conRText.G
 x)
 y.G ∧
 Sw.conRText.pre
 x ∧
 ∀
 (y_4 :
 Sw.TextRY), Sw.conRText.post
 x
 y_4 →
 ∃
 (x
 :
 Sw.RdrX), x.p =
 y_4.p ∧
 x.l =
 y_4.l ∧
 x.c =
 y_4.c ∧
 x.bad =
 y_4.bad ∧
 Vx.Sub
 (Sw.conRText.G
 x)
 y_4.G ∧
 Sw.conRText.pre
 x ∧
 ∀
 (y_5 :
 Sw.TextRY), Sw.conRText.post
 x
 y_5 →
 ∃
 (ys
 :
 List
 Int), ys.length =
 y_5.tl ∧
 Vx.RdS
 y_5.G
 y_5.tp
 y_5.tl
 (List.map
 (Go.Value.int
 Go.IntKind.u8)
 ys) ∧
 ∀
 (r :
 ByteArray), r =
 Vx.strOf
 ys →
 ∃
 (ys
 :
 List
 Int), ys.length =
 y_5.tl ∧
 Vx.RdS
 y_5.G
 y_5.tp
 y_5.tl
 (List.map
 (Go.Value.int
 Go.IntKind.u8)
 ys) ∧
 ∀
 (r_2 :
 ByteArray), r_2 =
 Vx.strOf
 ys →
 r_2 =
 r ∧
 ∃
 (ys
 :
 List
 Int), ys.length =
 y_5.tl ∧
 Vx.RdS
 y_5.G
 y_5.tp
 y_5.tl
 (List.map
 (Go.Value.int
 Go.IntKind.u8)
 ys) ∧
 ∀
 (r_3 :
 ByteArray), r_3 =
 Vx.strOf
 ys →
 r_3 =
 r ∧
 ∃
 (y_6
 :
 Sw.P9Y), Sw.par9P.post
 x_7
 y_6 ∧
 x_7.lk =
 x_7.lk ∧
 y_6.p =
 y_5.p ∧
 y_6.l =
 y_5.l ∧
 y_6.c =
 y_5.c ∧
 y_6.bad =
 y_5.bad ∧
 x_7.ram =
 x_7.ram ∧
 x_7.sec =
 x_7.sec ∧
 x_7.locked =
 x_7.locked ∧
 y_6.dp =
 y.tp ∧
 y_6.dl =
 y.tl ∧
 y_6.dc =
 y.tc ∧
 y_6.ip =
 y_4.tp ∧
 y_6.il =
 y_4.tl ∧
 y_6.ic =
 y_4.tc ∧
 y_6.name =
 r ∧
 Vx.Sub
 (Sw.par9P.G'
 x_7
 y_6)
 y_5.G ∧
 True) ∧
 ∀
 (y :
 Sw.P9Y), Sw.par9P.post
 x_7
 y →
 ∀
 (d :
 Nat →
 Go.Value), ∃
 (x_8
 :
 Sw.RdrX), x_8.p =
 y.p ∧
 x_8.l =
 y.l ∧
 x_8.c =
 y.c ∧
 x_8.bad =
 y.bad ∧
 Vx.Sub
 (Sw.conRNum.G
 x_8)
 y.G ∧
 Sw.conRNum.pre
 x_8 ∧
 ∀
 (y_4 :
 Sw.NumY), Sw.conRNum.post
 x_8
 y_4 →
 (Decidable.decide
 ((0 :
 Int) <
 y_4.v) =
 Bool.true →
 ((!y_4.bad) =
 Bool.true →
 ∃
 (x_9
 :
 Sw.RdrX), x_9.p =
 y_4.p ∧
 x_9.l =
 y_4.l ∧
 x_9.c =
 y_4.c ∧
 x_9.bad =
 y_4.bad ∧
 Vx.Sub
 (Sw.conREv.G
 x_9)
 x_8.G ∧
 Sw.conREv.pre
 x_9 ∧
 ∀
 (y_5 :
 Sw.EvRY), Sw.conREv.post
 x_9
 y_5 →
 ∀
 (c :
 Nat)
 (vs :
 List
 Go.Value), (1 :
 Nat) ≤
 c →
 vs.length =
 (c -
 (1 :
 Nat)) *
 (3 :
 Nat) →
 (∀
 (v :
 Go.Value), v ∈
 vs →
 v.oneCell' =
 Bool.true) →
 ∃
 (g
 :
 Sw.ParG), ∃
 (x0
 :
 Sw.ParI), g.lk =
 x_7.lk ∧
 g.n =
 y_4.v ∧
 x0.i =
 (1 :
 Int) ∧
 x0.p =
 y_5.p ∧
 x0.l =
 y_5.l ∧
 x0.c =
 y_5.c ∧
 x0.bad =
 y_5.bad ∧
 g.r.ram =
 x_7.ram ∧
 g.r.sec =
 x_7.sec ∧
 g.r.locked =
 x_7.locked ∧
 g.r.dp =
 y.dp ∧
 g.r.dl =
 y.dl ∧
 g.r.dc =
 y.dc ∧
 g.r.ip =
 y.ip ∧
 g.r.il =
 y.il ∧
 g.r.ic =
 y.ic ∧
 g.r.name =
 y.name ∧
 x0.es.length =
 (1 :
 Nat) ∧
 x0.ec =
 c ∧
 Sw.evsCells
 x0.es =
 [Go.Value.int
 Go.IntKind.i64
 y_5.e.k] ++
 ([Go.Value.int
 Go.IntKind.u64
 y_5.e.a] ++
 [Go.Value.slice
 y_5.e.p
 y_5.e.l
 y_5.e.c]) ∧
 (3 :
 Nat) *
 x0.es.length =
 (3 :
 Nat) ∧
 x0.vs =
 vs ∧
 x0.vs.length =
 (c -
 (1 :
 Nat)) *
 (3 :
 Nat) ∧
 Vx.Sub
 ((Sw.parL
 g).G
 x0)
 y_5.G ∧
 (Sw.parL
 g).inv
 x0 ∧
 ∀
 (x_10 :
 Sw.ParI), (Sw.parL
 g).inv
 x_10 →
 ∀
 (d :
 Nat →
 Go.Value), (Decidable.decide
 (x_10.i <
 g.n) =
 Bool.true →
 ((!x_10.bad) =
 Bool.true →
 ∃
 (x
 :
 Sw.RdrX), x.p =
 x_10.p ∧
 x.l =
 x_10.l ∧
 x.c =
 x_10.c ∧
 x.bad =
 x_10.bad ∧
 Vx.Sub
 (Sw.conREv.G
 x)
 x_10.G ∧
 Sw.conREv.pre
 x ∧
 ∀
 (y :
 Sw.EvRY), Sw.conREv.post
 x
 y →
 x_10.es.length =
 x_10.es.length ∧
 x_10.ec =
 x_10.ec ∧
 x_10.es.length =
 x_10.es.length ∧
 x_10.ec =
 x_10.ec ∧
 (x_10.es.length +
 (1 :
 Nat)) *
 (40 :
 Nat) ≤
 (140737488355328 :
 Nat) ∧
 ((x_10.es.length +
 (1 :
 Nat)) *
 (40 :
 Nat) ≤
 (140737488355328 :
 Nat) →
 x_10.es.length +
 (1 :
 Nat) ≤
 (9223372036854775807 :
 Nat) ∧
 (x_10.es.length +
 (1 :
 Nat) ≤
 (9223372036854775807 :
 Nat) →
 (3 :
 Nat) *
 x_10.es.length =
 x_10.es.length *
 (3 :
 Nat) ∧
 ((3 :
 Nat) *
 x_10.es.length =
 x_10.es.length *
 (3 :
 Nat) →
 x_10.vs.length =
 (x_10.ec -
 x_10.es.length) *
 (3 :
 Nat) ∧
 (x_10.vs.length =
 (x_10.ec -
 x_10.es.length) *
 (3 :
 Nat) →
 x_10.es.length ≤
 x_10.ec ∧
 (x_10.es.length ≤
 x_10.ec →
 ∀
 (c :
 Nat)
 (vs :
 List
 Go.Value), x_10.es.length +
 (1 :
 Nat) ≤
 c →
 vs.length =
 (c -
 (x_10.es.length +
 (1 :
 Nat))) *
 (3 :
 Nat) →
 (∀
 (v :
 Go.Value), v ∈
 vs →
 v.oneCell' =
 Bool.true) →
 ∀
 (r :
 Int), r =
 Go.IntKind.u64.wrap
 (x_10.i +
 (1 :
 Int)) →
 ∃
 (x'
 :
 Sw.ParI), (Sw.parL
 g).inv
 x' ∧
 (Sw.parL
 g).mea
 x' <
 (Sw.parL
 g).mea
 x_10 ∧
 g.lk =
 g.lk ∧
 g.n =
 g.n ∧
 x'.i =
 r ∧
 x'.p =
 y.p ∧
 x'.l =
 y.l ∧
 x'.c =
 y.c ∧
 x'.bad =
 y.bad ∧
 g.r.ram =
 g.r.ram ∧
 g.r.sec =
 g.r.sec ∧
 g.r.locked =
 g.r.locked ∧
 g.r.dp =
 g.r.dp ∧
 g.r.dl =
 g.r.dl ∧
 g.r.dc =
 g.r.dc ∧
 g.r.ip =
 g.r.ip ∧
 g.r.il =
 g.r.il ∧
 g.r.ic =
 g.r.ic ∧
 g.r.name =
 g.r.name ∧
 x'.es.length =
 x_10.es.length +
 (1 :
 Nat) ∧
 x'.ec =
 c ∧
 Sw.evsCells
 x'.es =
 Sw.evsCells
 x_10.es ++
 ([Go.Value.int
 Go.IntKind.i64
 y.e.k] ++
 ([Go.Value.int
 Go.IntKind.u64
 y.e.a] ++
 [Go.Value.slice
 y.e.p
 y.e.l
 y.e.c])) ∧
 (3 :
 Nat) *
 x'.es.length =
 (3 :
 Nat) *
 x_10.es.length +
 (3 :
 Nat) ∧
 x'.vs =
 vs ∧
 x'.vs.length =
 (c -
 (x_10.es.length +
 (1 :
 Nat))) *
 (3 :
 Nat) ∧
 Vx.Sub
 ((Sw.parL
 g).G
 x')
 y.G ∧
 True)))))) ∧
 ((!x_10.bad) =
 Bool.false →
 (x_10.bad =
 Bool.true →
 (∃
 (y
 :
 Sw.ParY), Sw.conParse.post
 x
 y ∧
 y.r.ram =
 (0 :
 Int) ∧
 y.r.sec =
 (0 :
 Int) ∧
 y.r.locked =
 Bool.false ∧
 y.r.dp =
 Option.none ∧
 y.r.dl =
 (0 :
 Nat) ∧
 y.r.dc =
 (0 :
 Nat) ∧
 y.r.ip =
 Option.none ∧
 y.r.il =
 (0 :
 Nat) ∧
 y.r.ic =
 (0 :
 Nat) ∧
 y.r.name =
 ByteArray.mk
 #[] ∧
 y.r.ep =
 Option.none ∧
 y.r.el =
 (0 :
 Nat) ∧
 y.r.ec =
 (0 :
 Nat) ∧
 y.err =
 (250 :
 Int) ∧
 Vx.Sub
 (Sw.conParse.G'
 x
 y)
 x_10.G ∧
 True) ∨
 ∃
 (y
 :
 Sw.frzPar.Y), Sw.frzPar.post
 x
 y ∧
 y.r.ram =
 (0 :
 Int) ∧
 y.r.sec =
 (0 :
 Int) ∧
 y.r.locked =
 Bool.false ∧
 y.r.dp =
 Option.none ∧
 y.r.dl =
 (0 :
 Nat) ∧
 y.r.dc =
 (0 :
 Nat) ∧
 y.r.ip =
 Option.none ∧
 y.r.il =
 (0 :
 Nat) ∧
 y.r.ic =
 (0 :
 Nat) ∧
 y.r.name =
 ByteArray.mk
 #[] ∧
 False) ∧
 (x_10.bad =
 Bool.false →
 (Decidable.decide
 ((↑x_10.l :
 Int) >
 (0 :
 Int)) =
 Bool.true →
 (∃
 (y
 :
 Sw.ParY), Sw.conParse.post
 x
 y ∧
 y.r.ram =
 (0 :
 Int) ∧
 y.r.sec =
 (0 :
 Int) ∧
 y.r.locked =
 Bool.false ∧
 y.r.dp =
 Option.none ∧
 y.r.dl =
 (0 :
 Nat) ∧
 y.r.dc =
 (0 :
 Nat) ∧
 y.r.ip =
 Option.none ∧
 y.r.il =
 (0 :
 Nat) ∧
 y.r.ic =
 (0 :
 Nat) ∧
 y.r.name =
 ByteArray.mk
 #[] ∧
 y.r.ep =
 Option.none ∧
 y.r.el =
 (0 :
 Nat) ∧
 y.r.ec =
 (0 :
 Nat) ∧
 y.err =
 (250 :
 Int) ∧
 Vx.Sub
 (Sw.conParse.G'
 x
 y)
 x_10.G ∧
 True) ∨
 ∃
 (y
 :
 Sw.frzPar.Y), Sw.frzPar.post
 x
 y ∧
 y.r.ram =
 (0 :
 Int) ∧
 y.r.sec =
 (0 :
 Int) ∧
 y.r.locked =
 Bool.false ∧
 y.r.dp =
 Option.none ∧
 y.r.dl =
 (0 :
 Nat) ∧
 y.r.dc =
 (0 :
 Nat) ∧
 y.r.ip =
 Option.none ∧
 y.r.il =
 (0 :
 Nat) ∧
 y.r.ic =
 (0 :
 Nat) ∧
 y.r.name =
 ByteArray.mk
 #[] ∧
 False) ∧
 (Decidable.decide
 ((↑x_10.l :
 Int) >
 (0 :
 Int)) =
 Bool.false →
 (Decidable.decide
 (g.lk >
 (1 :
 Int)) =
 Bool.true →
 (∃
 (y
 :
 Sw.ParY), Sw.conParse.post
 x
 y ∧
 y.r.ram =
 (0 :
 Int) ∧
 y.r.sec =
 (0 :
 Int) ∧
 y.r.locked =
 Bool.false ∧
 y.r.dp =
 Option.none ∧
 y.r.dl =
 (0 :
 Nat) ∧
 y.r.dc =
 (0 :
 Nat) ∧
 y.r.ip =
 Option.none ∧
 y.r.il =
 (0 :
 Nat) ∧
 y.r.ic =
 (0 :
 Nat) ∧
 y.r.name =
 ByteArray.mk
 #[] ∧
 y.r.ep =
 Option.none ∧
 y.r.el =
 (0 :
 Nat) ∧
 y.r.ec =
 (0 :
 Nat) ∧
 y.err =
 (250 :
 Int) ∧
 Vx.Sub
 (Sw.conParse.G'
 x
 y)
 x_10.G ∧
 True) ∨
 ∃
 (y
 :
 Sw.frzPar.Y), Sw.frzPar.post
 x
 y ∧
 y.r.ram =
 (0 :
 Int) ∧
 y.r.sec =
 (0 :
 Int) ∧
 y.r.locked =
 Bool.false ∧
 y.r.dp =
 Option.none ∧
 y.r.dl =
 (0 :
 Nat) ∧
 y.r.dc =
 (0 :
 Nat) ∧
 y.r.ip =
 Option.none ∧
 y.r.il =
 (0 :
 Nat) ∧
 y.r.ic =
 (0 :
 Nat) ∧
 y.r.name =
 ByteArray.mk
 #[] ∧
 False) ∧
 (Decidable.decide
 (g.lk >
 (1 :
 Int)) =
 Bool.false →
 (∃
 (y
 :
 Sw.ParY), Sw.conParse.post
 x
 y ∧
 y.r.ram =
 g.r.ram ∧
 y.r.sec =
 g.r.sec ∧
 y.r.locked =
 g.r.locked ∧
 y.r.dp =
 g.r.dp ∧
 y.r.dl =
 g.r.dl ∧
 y.r.dc =
 g.r.dc ∧
 y.r.ip =
 g.r.ip ∧
 y.r.il =
 g.r.il ∧
 y.r.ic =
 g.r.ic ∧
 y.r.name =
 g.r.name ∧
 False) ∨
 ∃
 (y
 :
 Sw.frzPar.Y), Sw.frzPar.post
 x
 y ∧
 y.r.ram =
 g.r.ram ∧
 y.r.sec =
 g.r.sec ∧
 y.r.locked =
 g.r.locked ∧
 y.r.dp =
 g.r.dp ∧
 y.r.dl =
 g.r.dl ∧
 y.r.dc =
 g.r.dc ∧
 y.r.ip =
 g.r.ip ∧
 y.r.il =
 g.r.il ∧
 y.r.ic =
 g.r.ic ∧
 y.r.name =
 g.r.name ∧
 y.r.el =
 x_10.es.length ∧
 y.r.ec =
 x_10.ec ∧
 Sw.evsCells
 y.r.evs =
 Sw.evsCells
 x_10.es ∧
 (3 :
 Nat) *
 y.r.evs.length =
 (3 :
 Nat) *
 x_10.es.length ∧
 y.vs =
 x_10.vs ∧
 y.vs.length =
 x_10.vs.length ∧
 Vx.Sub
 (Sw.frzPar.G'
 x
 y)
 x_10.G ∧
 True))))) ∧
 (Decidable.decide
 (x_10.i <
 g.n) =
 Bool.false →
 (x_10.bad =
 Bool.true →
 (∃
 (y
 :
 Sw.ParY), Sw.conParse.post
 x
 y ∧
 y.r.ram =
 (0 :
 Int) ∧
 y.r.sec =
 (0 :
 Int) ∧
 y.r.locked =
 Bool.false ∧
 y.r.dp =
 Option.none ∧
 y.r.dl =
 (0 :
 Nat) ∧
 y.r.dc =
 (0 :
 Nat) ∧
 y.r.ip =
 Option.none ∧
 y.r.il =
 (0 :
 Nat) ∧
 y.r.ic =
 (0 :
 Nat) ∧
 y.r.name =
 ByteArray.mk
 #[] ∧
 y.r.ep =
 Option.none ∧
 y.r.el =
 (0 :
 Nat) ∧
 y.r.ec =
 (0 :
 Nat) ∧
 y.err =
 (250 :
 Int) ∧
 Vx.Sub
 (Sw.conParse.G'
 x
 y)
 x_10.G ∧
 True) ∨
 ∃
 (y
 :
 Sw.frzPar.Y), Sw.frzPar.post
 x
 y ∧
 y.r.ram =
 (0 :
 Int) ∧
 y.r.sec =
 (0 :
 Int) ∧
 y.r.locked =
 Bool.false ∧
 y.r.dp =
 Option.none ∧
 y.r.dl =
 (0 :
 Nat) ∧
 y.r.dc =
 (0 :
 Nat) ∧
 y.r.ip =
 Option.none ∧
 y.r.il =
 (0 :
 Nat) ∧
 y.r.ic =
 (0 :
 Nat) ∧
 y.r.name =
 ByteArray.mk
 #[] ∧
 False) ∧
 (x_10.bad =
 Bool.false →
 (Decidable.decide
 ((↑x_10.l :
 Int) >
 (0 :
 Int)) =
 Bool.true →
 (∃
 (y
 :
 Sw.ParY), Sw.conParse.post
 x
 y ∧
 y.r.ram =
 (0 :
 Int) ∧
 y.r.sec =
 (0 :
 Int) ∧
 y.r.locked =
 Bool.false ∧
 y.r.dp =
 Option.none ∧
 y.r.dl =
 (0 :
 Nat) ∧
 y.r.dc =
 (0 :
 Nat) ∧
 y.r.ip =
 Option.none ∧
 y.r.il =
 (0 :
 Nat) ∧
 y.r.ic =
 (0 :
 Nat) ∧
 y.r.name =
 ByteArray.mk
 #[] ∧
 y.r.ep =
 Option.none ∧
 y.r.el =
 (0 :
 Nat) ∧
 y.r.ec =
 (0 :
 Nat) ∧
 y.err =
 (250 :
 Int) ∧
 Vx.Sub
 (Sw.conParse.G'
 x
 y)
 x_10.G ∧
 True) ∨
 ∃
 (y
 :
 Sw.frzPar.Y), Sw.frzPar.post
 x
 y ∧
 y.r.ram =
 (0 :
 Int) ∧
 y.r.sec =
 (0 :
 Int) ∧
 y.r.locked =
 Bool.false ∧
 y.r.dp =
 Option.none ∧
 y.r.dl =
 (0 :
 Nat) ∧
 y.r.dc =
 (0 :
 Nat) ∧
 y.r.ip =
 Option.none ∧
 y.r.il =
 (0 :
 Nat) ∧
 y.r.ic =
 (0 :
 Nat) ∧
 y.r.name =
 ByteArray.mk
 #[] ∧
 False) ∧
 (Decidable.decide
 ((↑x_10.l :
 Int) >
 (0 :
 Int)) =
 Bool.false →
 (Decidable.decide
 (g.lk >
 (1 :
 Int)) =
 Bool.true →
 (∃
 (y
 :
 Sw.ParY), Sw.conParse.post
 x
 y ∧
 y.r.ram =
 (0 :
 Int) ∧
 y.r.sec =
 (0 :
 Int) ∧
 y.r.locked =
 Bool.false ∧
 y.r.dp =
 Option.none ∧
 y.r.dl =
 (0 :
 Nat) ∧
 y.r.dc =
 (0 :
 Nat) ∧
 y.r.ip =
 Option.none ∧
 y.r.il =
 (0 :
 Nat) ∧
 y.r.ic =
 (0 :
 Nat) ∧
 y.r.name =
 ByteArray.mk
 #[] ∧
 y.r.ep =
 Option.none ∧
 y.r.el =
 (0 :
 Nat) ∧
 y.r.ec =
 (0 :
 Nat) ∧
 y.err =
 (250 :
 Int) ∧
 Vx.Sub
 (Sw.conParse.G'
 x
 y)
 x_10.G ∧
 True) ∨
 ∃
 (y
 :
 Sw.frzPar.Y), Sw.frzPar.post
 x
 y ∧
 y.r.ram =
 (0 :
 Int) ∧
 y.r.sec =
 (0 :
 Int) ∧
 y.r.locked =
 Bool.false ∧
 y.r.dp =
 Option.none ∧
 y.r.dl =
 (0 :
 Nat) ∧
 y.r.dc =
 (0 :
 Nat) ∧
 y.r.ip =
 Option.none ∧
 y.r.il =
 (0 :
 Nat) ∧
 y.r.ic =
 (0 :
 Nat) ∧
 y.r.name =
 ByteArray.mk
 #[] ∧
 False) ∧
 (Decidable.decide
 (g.lk >
 (1 :
 Int)) =
 Bool.false →
 (∃
 (y
 :
 Sw.ParY), Sw.conParse.post
 x
 y ∧
 y.r.ram =
 g.r.ram ∧
 y.r.sec =
 g.r.sec ∧
 y.r.locked =
 g.r.locked ∧
 y.r.dp =
 g.r.dp ∧
 y.r.dl =
 g.r.dl ∧
 y.r.dc =
 g.r.dc ∧
 y.r.ip =
 g.r.ip ∧
 y.r.il =
 g.r.il ∧
 y.r.ic =
 g.r.ic ∧
 y.r.name =
 g.r.name ∧
 False) ∨
 ∃
 (y
 :
 Sw.frzPar.Y), Sw.frzPar.post
 x
 y ∧
 y.r.ram =
 g.r.ram ∧
 y.r.sec =
 g.r.sec ∧
 y.r.locked =
 g.r.locked ∧
 y.r.dp =
 g.r.dp ∧
 y.r.dl =
 g.r.dl ∧
 y.r.dc =
 g.r.dc ∧
 y.r.ip =
 g.r.ip ∧
 y.r.il =
 g.r.il ∧
 y.r.ic =
 g.r.ic ∧
 y.r.name =
 g.r.name ∧
 y.r.el =
 x_10.es.length ∧
 y.r.ec =
 x_10.ec ∧
 Sw.evsCells
 y.r.evs =
 Sw.evsCells
 x_10.es ∧
 (3 :
 Nat) *
 y.r.evs.length =
 (3 :
 Nat) *
 x_10.es.length ∧
 y.vs =
 x_10.vs ∧
 y.vs.length =
 x_10.vs.length ∧
 Vx.Sub
 (Sw.frzPar.G'
 x
 y)
 x_10.G ∧
 True))))) ∧
 ((!y_4.bad) =
 Bool.false →
 (y_4.bad =
 Bool.true →
 (∃
 (y
 :
 Sw.ParY), Sw.conParse.post
 x
 y ∧
 y.r.ram =
 (0 :
 Int) ∧
 y.r.sec =
 (0 :
 Int) ∧
 y.r.locked =
 Bool.false ∧
 y.r.dp =
 Option.none ∧
 y.r.dl =
 (0 :
 Nat) ∧
 y.r.dc =
 (0 :
 Nat) ∧
 y.r.ip =
 Option.none ∧
 y.r.il =
 (0 :
 Nat) ∧
 y.r.ic =
 (0 :
 Nat) ∧
 y.r.name =
 ByteArray.mk
 #[] ∧
 y.r.ep =
 Option.none ∧
 y.r.el =
 (0 :
 Nat) ∧
 y.r.ec =
 (0 :
 Nat) ∧
 y.err =
 (250 :
 Int) ∧
 Vx.Sub
 (Sw.conParse.G'
 x
 y)
 x_8.G ∧
 True) ∨
 ∃
 (y
 :
 Sw.frzPar.Y), Sw.frzPar.post
 x
 y ∧
 y.r.ram =
 (0 :
 Int) ∧
 y.r.sec =
 (0 :
 Int) ∧
 y.r.locked =
 Bool.false ∧
 y.r.dp =
 Option.none ∧
 y.r.dl =
 (0 :
 Nat) ∧
 y.r.dc =
 (0 :
 Nat) ∧
 y.r.ip =
 Option.none ∧
 y.r.il =
 (0 :
 Nat) ∧
 y.r.ic =
 (0 :
 Nat) ∧
 y.r.name =
 ByteArray.mk
 #[] ∧
 False) ∧
 (y_4.bad =
 Bool.false →
 (Decidable.decide
 ((↑y_4.l :
 Int) >
 (0 :
 Int)) =
 Bool.true →
 (∃
 (y
 :
 Sw.ParY), Sw.conParse.post
 x
 y ∧
 y.r.ram =
 (0 :
 Int) ∧
 y.r.sec =
 (0 :
 Int) ∧
 y.r.locked =
 Bool.false ∧
 y.r.dp =
 Option.none ∧
 y.r.dl =
 (0 :
 Nat) ∧
 y.r.dc =
 (0 :
 Nat) ∧
 y.r.ip =
 Option.none ∧
 y.r.il =
 (0 :
 Nat) ∧
 y.r.ic =
 (0 :
 Nat) ∧
 y.r.name =
 ByteArray.mk
 #[] ∧
 y.r.ep =
 Option.none ∧
 y.r.el =
 (0 :
 Nat) ∧
 y.r.ec =
 (0 :
 Nat) ∧
 y.err =
 (250 :
 Int) ∧
 Vx.Sub
 (Sw.conParse.G'
 x
 y)
 x_8.G ∧
 True) ∨
 ∃
 (y
 :
 Sw.frzPar.Y), Sw.frzPar.post
 x
 y ∧
 y.r.ram =
 (0 :
 Int) ∧
 y.r.sec =
 (0 :
 Int) ∧
 y.r.locked =
 Bool.false ∧
 y.r.dp =
 Option.none ∧
 y.r.dl =
 (0 :
 Nat) ∧
 y.r.dc =
 (0 :
 Nat) ∧
 y.r.ip =
 Option.none ∧
 y.r.il =
 (0 :
 Nat) ∧
 y.r.ic =
 (0 :
 Nat) ∧
 y.r.name =
 ByteArray.mk
 #[] ∧
 False) ∧
 (Decidable.decide
 ((↑y_4.l :
 Int) >
 (0 :
 Int)) =
 Bool.false →
 (Decidable.decide
 (x_7.lk >
 (1 :
 Int)) =
 Bool.true →
 (∃
 (y
 :
 Sw.ParY), Sw.conParse.post
 x
 y ∧
 y.r.ram =
 (0 :
 Int) ∧
 y.r.sec =
 (0 :
 Int) ∧
 y.r.locked =
 Bool.false ∧
 y.r.dp =
 Option.none ∧
 y.r.dl =
 (0 :
 Nat) ∧
 y.r.dc =
 (0 :
 Nat) ∧
 y.r.ip =
 Option.none ∧
 y.r.il =
 (0 :
 Nat) ∧
 y.r.ic =
 (0 :
 Nat) ∧
 y.r.name =
 ByteArray.mk
 #[] ∧
 y.r.ep =
 Option.none ∧
 y.r.el =
 (0 :
 Nat) ∧
 y.r.ec =
 (0 :
 Nat) ∧
 y.err =
 (250 :
 Int) ∧
 Vx.Sub
 (Sw.conParse.G'
 x
 y)
 x_8.G ∧
 True) ∨
 ∃
 (y
 :
 Sw.frzPar.Y), Sw.frzPar.post
 x
 y ∧
 y.r.ram =
 (0 :
 Int) ∧
 y.r.sec =
 (0 :
 Int) ∧
 y.r.locked =
 Bool.false ∧
 y.r.dp =
 Option.none ∧
 y.r.dl =
 (0 :
 Nat) ∧
 y.r.dc =
 (0 :
 Nat) ∧
 y.r.ip =
 Option.none ∧
 y.r.il =
 (0 :
 Nat) ∧
 y.r.ic =
 (0 :
 Nat) ∧
 y.r.name =
 ByteArray.mk
 #[] ∧
 False) ∧
 (Decidable.decide
 (x_7.lk >
 (1 :
 Int)) =
 Bool.false →
 (∃
 (y_5
 :
 Sw.ParY), Sw.conParse.post
 x
 y_5 ∧
 y_5.r.ram =
 x_7.ram ∧
 y_5.r.sec =
 x_7.sec ∧
 y_5.r.locked =
 x_7.locked ∧
 y_5.r.dp =
 y.dp ∧
 y_5.r.dl =
 y.dl ∧
 y_5.r.dc =
 y.dc ∧
 y_5.r.ip =
 y.ip ∧
 y_5.r.il =
 y.il ∧
 y_5.r.ic =
 y.ic ∧
 y_5.r.name =
 y.name ∧
 y_5.r.ep =
 Option.none ∧
 y_5.r.el =
 (0 :
 Nat) ∧
 y_5.r.ec =
 (0 :
 Nat) ∧
 y_5.err =
 (0 :
 Int) ∧
 Vx.Sub
 (Sw.conParse.G'
 x
 y_5)
 x_8.G ∧
 True) ∨
 ∃
 (y_5
 :
 Sw.frzPar.Y), Sw.frzPar.post
 x
 y_5 ∧
 y_5.r.ram =
 x_7.ram ∧
 y_5.r.sec =
 x_7.sec ∧
 y_5.r.locked =
 x_7.locked ∧
 y_5.r.dp =
 y.dp ∧
 y_5.r.dl =
 y.dl ∧
 y_5.r.dc =
 y.dc ∧
 y_5.r.ip =
 y.ip ∧
 y_5.r.il =
 y.il ∧
 y_5.r.ic =
 y.ic ∧
 y_5.r.name =
 y.name ∧
 False))))) ∧
 (Decidable.decide
 ((0 :
 Int) <
 y_4.v) =
 Bool.false →
 (y_4.bad =
 Bool.true →
 (∃
 (y
 :
 Sw.ParY), Sw.conParse.post
 x
 y ∧
 y.r.ram =
 (0 :
 Int) ∧
 y.r.sec =
 (0 :
 Int) ∧
 y.r.locked =
 Bool.false ∧
 y.r.dp =
 Option.none ∧
 y.r.dl =
 (0 :
 Nat) ∧
 y.r.dc =
 (0 :
 Nat) ∧
 y.r.ip =
 Option.none ∧
 y.r.il =
 (0 :
 Nat) ∧
 y.r.ic =
 (0 :
 Nat) ∧
 y.r.name =
 ByteArray.mk
 #[] ∧
 y.r.ep =
 Option.none ∧
 y.r.el =
 (0 :
 Nat) ∧
 y.r.ec =
 (0 :
 Nat) ∧
 y.err =
 (250 :
 Int) ∧
 Vx.Sub
 (Sw.conParse.G'
 x
 y)
 x_8.G ∧
 True) ∨
 ∃
 (y
 :
 Sw.frzPar.Y), Sw.frzPar.post
 x
 y ∧
 y.r.ram =
 (0 :
 Int) ∧
 y.r.sec =
 (0 :
 Int) ∧
 y.r.locked =
 Bool.false ∧
 y.r.dp =
 Option.none ∧
 y.r.dl =
 (0 :
 Nat) ∧
 y.r.dc =
 (0 :
 Nat) ∧
 y.r.ip =
 Option.none ∧
 y.r.il =
 (0 :
 Nat) ∧
 y.r.ic =
 (0 :
 Nat) ∧
 y.r.name =
 ByteArray.mk
 #[] ∧
 False) ∧
 (y_4.bad =
 Bool.false →
 (Decidable.decide
 ((↑y_4.l :
 Int) >
 (0 :
 Int)) =
 Bool.true →
 (∃
 (y
 :
 Sw.ParY), Sw.conParse.post
 x
 y ∧
 y.r.ram =
 (0 :
 Int) ∧
 y.r.sec =
 (0 :
 Int) ∧
 y.r.locked =
 Bool.false ∧
 y.r.dp =
 Option.none ∧
 y.r.dl =
 (0 :
 Nat) ∧
 y.r.dc =
 (0 :
 Nat) ∧
 y.r.ip =
 Option.none ∧
 y.r.il =
 (0 :
 Nat) ∧
 y.r.ic =
 (0 :
 Nat) ∧
 y.r.name =
 ByteArray.mk
 #[] ∧
 y.r.ep =
 Option.none ∧
 y.r.el =
 (0 :
 Nat) ∧
 y.r.ec =
 (0 :
 Nat) ∧
 y.err =
 (250 :
 Int) ∧
 Vx.Sub
 (Sw.conParse.G'
 x
 y)
 x_8.G ∧
 True) ∨
 ∃
 (y
 :
 Sw.frzPar.Y), Sw.frzPar.post
 x
 y ∧
 y.r.ram =
 (0 :
 Int) ∧
 y.r.sec =
 (0 :
 Int) ∧
 y.r.locked =
 Bool.false ∧
 y.r.dp =
 Option.none ∧
 y.r.dl =
 (0 :
 Nat) ∧
 y.r.dc =
 (0 :
 Nat) ∧
 y.r.ip =
 Option.none ∧
 y.r.il =
 (0 :
 Nat) ∧
 y.r.ic =
 (0 :
 Nat) ∧
 y.r.name =
 ByteArray.mk
 #[] ∧
 False) ∧
 (Decidable.decide
 ((↑y_4.l :
 Int) >
 (0 :
 Int)) =
 Bool.false →
 (Decidable.decide
 (x_7.lk >
 (1 :
 Int)) =
 Bool.true →
 (∃
 (y
 :
 Sw.ParY), Sw.conParse.post
 x
 y ∧
 y.r.ram =
 (0 :
 Int) ∧
 y.r.sec =
 (0 :
 Int) ∧
 y.r.locked =
 Bool.false ∧
 y.r.dp =
 Option.none ∧
 y.r.dl =
 (0 :
 Nat) ∧
 y.r.dc =
 (0 :
 Nat) ∧
 y.r.ip =
 Option.none ∧
 y.r.il =
 (0 :
 Nat) ∧
 y.r.ic =
 (0 :
 Nat) ∧
 y.r.name =
 ByteArray.mk
 #[] ∧
 y.r.ep =
 Option.none ∧
 y.r.el =
 (0 :
 Nat) ∧
 y.r.ec =
 (0 :
 Nat) ∧
 y.err =
 (250 :
 Int) ∧
 Vx.Sub
 (Sw.conParse.G'
 x
 y)
 x_8.G ∧
 True) ∨
 ∃
 (y
 :
 Sw.frzPar.Y), Sw.frzPar.post
 x
 y ∧
 y.r.ram =
 (0 :
 Int) ∧
 y.r.sec =
 (0 :
 Int) ∧
 y.r.locked =
 Bool.false ∧
 y.r.dp =
 Option.none ∧
 y.r.dl =
 (0 :
 Nat) ∧
 y.r.dc =
 (0 :
 Nat) ∧
 y.r.ip =
 Option.none ∧
 y.r.il =
 (0 :
 Nat) ∧
 y.r.ic =
 (0 :
 Nat) ∧
 y.r.name =
 ByteArray.mk
 #[] ∧
 False) ∧
 (Decidable.decide
 (x_7.lk >
 (1 :
 Int)) =
 Bool.false →
 (∃
 (y_5
 :
 Sw.ParY), Sw.conParse.post
 x
 y_5 ∧
 y_5.r.ram =
 x_7.ram ∧
 y_5.r.sec =
 x_7.sec ∧
 y_5.r.locked =
 x_7.locked ∧
 y_5.r.dp =
 y.dp ∧
 y_5.r.dl =
 y.dl ∧
 y_5.r.dc =
 y.dc ∧
 y_5.r.ip =
 y.ip ∧
 y_5.r.il =
 y.il ∧
 y_5.r.ic =
 y.ic ∧
 y_5.r.name =
 y.name ∧
 y_5.r.ep =
 Option.none ∧
 y_5.r.el =
 (0 :
 Nat) ∧
 y_5.r.ec =
 (0 :
 Nat) ∧
 y_5.err =
 (0 :
 Int) ∧
 Vx.Sub
 (Sw.conParse.G'
 x
 y_5)
 x_8.G ∧
 True) ∨
 ∃
 (y_5
 :
 Sw.frzPar.Y), Sw.frzPar.post
 x
 y_5 ∧
 y_5.r.ram =
 x_7.ram ∧
 y_5.r.sec =
 x_7.sec ∧
 y_5.r.locked =
 x_7.locked ∧
 y_5.r.dp =
 y.dp ∧
 y_5.r.dl =
 y.dl ∧
 y_5.r.dc =
 y.dc ∧
 y_5.r.ip =
 y.ip ∧
 y_5.r.il =
 y.il ∧
 y_5.r.ic =
 y.ic ∧
 y_5.r.name =
 y.name ∧
 False)))))))))))))) := by kernel_rfl
end Sw
end
section
/- A record's bytes, read back piece by piece: the plain law. -/
namespace Sw
set_option maxRecDepth 100000
open Go Go.Proofs Vx

theorem text_inj {a b r s : List Int} (ha : a.length < 18446744073709551616) (hb : b.length < 18446744073709551616) (h : textB a ++ r = textB b ++ s) : a = b ∧ r = s := by
  rw [textB, textB, List.append_assoc, List.append_assoc] at h
  obtain ⟨h1, h2⟩ := num_inj ha hb h
  exact List.append_inj h2 h1
theorem ev_inj {e f : Ev} {r s : List Int} (he : IsByte e.k ∧ IsU64 e.a ∧ e.d.length < 18446744073709551616) (hf : IsByte f.k ∧ IsU64 f.a ∧ f.d.length < 18446744073709551616) (h : evB e ++ r = evB f ++ s) : EvSame e f ∧ r = s := by
  obtain ⟨⟨e1, e2⟩, ⟨e3, e4⟩, e5⟩ := he
  obtain ⟨⟨f1, f2⟩, ⟨f3, f4⟩, f5⟩ := hf
  have hw : IntKind.u64.wrap e.k = e.k := by rw [wu64]; omega
  have hw' : IntKind.u64.wrap f.k = f.k := by rw [wu64]; omega
  simp only [evB, List.append_assoc, hw, hw'] at h
  obtain ⟨h1, h⟩ := num_inj (by omega) (by omega) h
  obtain ⟨h2, h⟩ := num_inj (by omega) (by omega) h
  obtain ⟨h3, h⟩ := text_inj e5 f5 h
  exact ⟨⟨by omega, by omega, h3⟩, h⟩
theorem numB_pos (n : Nat) : 1 ≤ (numB 10 n).length := by
  rw [numB]
  split <;> simp
theorem evB_len (e : Ev) : 3 ≤ (evB e).length := by
  have h1 := numB_pos (IntKind.u64.wrap e.k).toNat
  have h2 := numB_pos e.a.toNat
  have h3 := numB_pos e.d.length
  simp only [evB, textB, List.length_append]
  omega

/-- All pieces of a record's bytes. -/
theorem recB_eq (r : RecX) : recB r = numB 10 478443366774 ++ (numB 10 r.ram.toNat ++ (numB 10 r.sec.toNat ++ (numB 10 (cond r.locked 1 0) ++ (textB r.dd ++ (textB r.id ++ (textB (bytesOf r.name) ++ (numB 10 r.el ++ evsB r.evs))))))) := by
  have : numB 10 478443366774 = [246, 210, 201, 171, 246, 13] := by decide +kernel
  rw [this]
  simp only [recB, headB, List.append_assoc]
theorem Cur.start (pay : List Int) : Cur pay [] false pay (fun r => recB r) fun _ => True := .inr ⟨rfl, rfl, fun _ _ h => ⟨h, trivial⟩⟩
theorem Cur.as {pay pre : List Int} {bad : Bool} {d : List Int} {tl tl' : RecX → List Int} {Q : RecX → Prop} (h : Cur pay pre bad d tl Q) (e : ∀ r, tl r = tl' r) : Cur pay pre bad d tl' Q := by
  rcases h with h | ⟨h1, h2, h3⟩
  · exact .inl h
  · exact .inr ⟨h1, h2, fun r hc hr => ⟨(h3 r hc hr).1.trans (e r), (h3 r hc hr).2⟩⟩
theorem Cur.num {pay pre : List Int} {bad bad' : Bool} {d d' : List Int} {tl : RecX → List Int} {Q : RecX → Prop} {f : RecX → Nat} (h : Cur pay pre bad d (fun r => numB 10 (f r) ++ tl r) Q) (hf : ∀ r, Canon r → f r < 18446744073709551616)
    {v : Nat} (hv : v < 18446744073709551616) (hp : (bad' = true ∧ (bad = true ∨ ¬ HasNum d)) ∨ (bad' = bad ∧ d = numB 10 v ++ d')) : Cur pay (pre ++ numB 10 v) bad' d' tl fun r => Q r ∧ f r = v := by
  rcases h with ⟨h1, h2⟩ | ⟨h1, h2, h3⟩
  · refine .inl ⟨?_, h2⟩
    rcases hp with ⟨hp, _⟩ | ⟨hp, _⟩
    · exact hp
    · rw [hp, h1]
  · rcases hp with ⟨hp, hq⟩ | ⟨hp, hq⟩
    · refine .inl ⟨hp, fun ⟨r, hc, hr⟩ => ?_⟩
      rcases hq with hq | hq
      · rw [h1] at hq; cases hq
      · exact hq ⟨f r, tl r, hf r hc, (h3 r hc hr).1⟩
    · refine .inr ⟨by rw [hp, h1], by rw [h2, hq, List.append_assoc], fun r hc hr => ?_⟩
      obtain ⟨g1, g2⟩ := h3 r hc hr
      rw [hq] at g1
      obtain ⟨g3, g4⟩ := num_inj hv (hf r hc) g1
      exact ⟨g4, g2, g3.symm⟩
theorem Cur.text3 {pay pre : List Int} {bad bad' : Bool} {d d' : List Int} {tl : RecX → List Int} {Q : RecX → Prop} {f g k : RecX → List Int} (h : Cur pay pre bad d (fun r => textB (f r) ++ (textB (g r) ++ (textB (k r) ++ tl r))) Q)
    (hf : ∀ r, Canon r → (f r).length < 18446744073709551616 ∧ (g r).length < 18446744073709551616 ∧ (k r).length < 18446744073709551616)
    {a b c : List Int} (hv : a.length < 18446744073709551616 ∧ b.length < 18446744073709551616 ∧ c.length < 18446744073709551616)
    (hp : (bad' = true ∧ (bad = true ∨ ¬ HasText3 d)) ∨ (bad' = bad ∧ d = textB a ++ (textB b ++ (textB c ++ d')))) : Cur pay (pre ++ (textB a ++ (textB b ++ textB c))) bad' d' tl fun r => Q r ∧ f r = a ∧ g r = b ∧ k r = c := by
  rcases h with ⟨h1, h2⟩ | ⟨h1, h2, h3⟩
  · refine .inl ⟨?_, h2⟩
    rcases hp with ⟨hp, _⟩ | ⟨hp, _⟩
    · exact hp
    · rw [hp, h1]
  · rcases hp with ⟨hp, hq⟩ | ⟨hp, hq⟩
    · refine .inl ⟨hp, fun ⟨r, hc, hr⟩ => ?_⟩
      rcases hq with hq | hq
      · rw [h1] at hq; cases hq
      · exact hq ⟨f r, g r, k r, tl r, (hf r hc).1, (hf r hc).2.1, (hf r hc).2.2, (h3 r hc hr).1⟩
    · refine .inr ⟨by rw [hp, h1], by rw [h2, hq]; simp only [List.append_assoc], fun r hc hr => ?_⟩
      obtain ⟨g1, g2⟩ := h3 r hc hr
      obtain ⟨q1, q2, q3⟩ := hf r hc
      rw [hq] at g1
      obtain ⟨e1, g1⟩ := text_inj hv.1 q1 g1
      obtain ⟨e2, g1⟩ := text_inj hv.2.1 q2 g1
      obtain ⟨e3, g1⟩ := text_inj hv.2.2 q3 g1
      exact ⟨g1, g2, e1.symm, e2.symm, e3.symm⟩
theorem Cur.no {pay pre : List Int} {bad : Bool} {d : List Int} {tl : RecX → List Int} {Q : RecX → Prop} (h : Cur pay pre bad d tl Q) (hq : bad = false → ∀ r, Canon r → pay = recB r → d = tl r → Q r → False) : NoRec pay := by
  rcases h with ⟨_, h⟩ | ⟨h1, h2, h3⟩
  · exact h
  · rintro ⟨r, hc, hr⟩
    obtain ⟨g1, g2⟩ := h3 r hc hr
    exact hq h1 r hc hr g1 g2
theorem Cur.bad {pay pre : List Int} {d : List Int} {tl : RecX → List Int} {Q : RecX → Prop} (h : Cur pay pre true d tl Q) : NoRec pay := h.no fun h => by cases h

/-! ### The check at the end -/
theorem word4_of {a b c d : Int} (ha : IsByte a) (hb : IsByte b) (hc : IsByte c) (hd : IsByte d) : word4 (a + b * 256 + c * 65536 + d * 16777216) = [a, b, c, d] := by
  obtain ⟨a1, a2⟩ := ha
  obtain ⟨b1, b2⟩ := hb
  obtain ⟨c1, c2⟩ := hc
  obtain ⟨d1, d2⟩ := hd
  generalize hw : a + b * 256 + c * 65536 + d * 16777216 = w
  have h : 0 ≤ w ∧ w < 4294967296 := by omega
  have s1 : shr8 w = w / 256 := shr_u64 w h.1 8 (by decide)
  have s2 : shr8 (w / 256) = w / 256 / 256 := shr_u64 _ (by omega) 8 (by decide)
  have s3 : shr8 (w / 256 / 256) = w / 256 / 256 / 256 := shr_u64 _ (by omega) 8 (by decide)
  unfold word4
  rw [s1, s2, s3]
  simp only [IntKind.wrap_u8']
  have e1 : w % 256 = a := by omega
  have e2 : w / 256 % 256 = b := by omega
  have e3 : w / 256 / 256 % 256 = c := by omega
  have e4 : w / 256 / 256 / 256 % 256 = d := by omega
  rw [e1, e2, e3, e4]
theorem of_word4 {w : Int} (h : 0 ≤ w ∧ w < 4294967296) : (word4 w).getD 0 0 + (word4 w).getD 1 0 * 256 + (word4 w).getD 2 0 * 65536 + (word4 w).getD 3 0 * 16777216 = w := by
  have s1 : shr8 w = w / 256 := shr_u64 w h.1 8 (by decide)
  have s2 : shr8 (w / 256) = w / 256 / 256 := shr_u64 _ (by omega) 8 (by decide)
  have s3 : shr8 (w / 256 / 256) = w / 256 / 256 / 256 := shr_u64 _ (by omega) 8 (by decide)
  unfold word4
  rw [s1, s2, s3]
  simp only [IntKind.wrap_u8', List.getD_cons_zero, List.getD_cons_succ]
  omega
theorem word4_len (w : Int) : (word4 w).length = 4 := rfl
theorem of_list {l : List Int} (hl : l.length = 4) (hb : ∀ b ∈ l, IsByte b) : l = word4 (l.getD 0 0 + l.getD 1 0 * 256 + l.getD 2 0 * 65536 + l.getD 3 0 * 16777216) := by
  match l, hl with
  | [a, b, c, d], _ =>
    simp only [List.getD_cons_zero, List.getD_cons_succ]
    rw [word4_of (hb a (by simp)) (hb b (by simp)) (hb c (by simp)) (hb d (by simp))]
theorem split4 {d a : List Int} {w : Int} {k : Nat} (hk : d.length = k + 4) (h : d = a ++ word4 w) : d.take k = a ∧ d.drop k = word4 w := by
  have hl : a.length = k := by
    have := congrArg List.length h
    simp only [List.length_append, word4_len] at this
    omega
  rw [h]
  exact ⟨by rw [List.take_append_of_le_length (by omega), List.take_of_length_le (by omega)], by rw [List.drop_append_of_le_length (by omega), List.drop_of_length_le (by omega)]; rfl⟩

theorem bytesOf_strOf : ∀ (d : List Int), (∀ b ∈ d, IsByte b) → bytesOf (strOf d) = d := by
  intro d hd
  have key : ∀ (d : List Int) (acc : ByteArray), (∀ b ∈ d, IsByte b) → bytesOf (d.foldl (fun r n => r.push (UInt8.ofNat n.toNat)) acc) = bytesOf acc ++ d := by
    intro d
    induction d with
    | nil => intro acc _; simp
    | cons b r ih =>
      intro acc h
      rw [List.foldl_cons, ih _ fun c hc => h c (List.mem_cons_of_mem _ hc)]
      obtain ⟨h1, h2⟩ := h b List.mem_cons_self
      have : bytesOf (acc.push (UInt8.ofNat b.toNat)) = bytesOf acc ++ [b] := by
        simp only [bytesOf, ByteArray.data_push, Array.toList_push, List.map_append, List.map_cons, List.map_nil]
        congr 2
        simp only [UInt8.toNat_ofNat']
        omega
      rw [this, List.append_assoc]
      rfl
  exact key d ByteArray.empty hd
theorem strOf_size (d : List Int) : (strOf d).size = d.length := by
  have key : ∀ (d : List Int) (acc : ByteArray), (d.foldl (fun r n => r.push (UInt8.ofNat n.toNat)) acc).size = acc.size + d.length := by
    intro d
    induction d with
    | nil => intro acc; simp
    | cons b r ih => intro acc; rw [List.foldl_cons, ih]; simp [ByteArray.size_push]; omega
  have := key d ByteArray.empty
  unfold strOf
  rw [this]
  simp

/-! ### Events -/
theorem evsB_append (a b : List Ev) : evsB (a ++ b) = evsB a ++ evsB b := by
  induction a with
  | nil => rfl
  | cons e r ih => simp only [List.cons_append, evsB, ih, List.append_assoc]
theorem evsCells_append (a b : List Ev) : evsCells (a ++ b) = evsCells a ++ evsCells b := by
  induction a with
  | nil => rfl
  | cons e r ih => simp only [List.cons_append, evsCells, ih, List.append_assoc]
theorem EvsSame.append : ∀ {a b c d : List Ev}, EvsSame a b → EvsSame c d → EvsSame (a ++ c) (b ++ d)
  | [], [], _, _, _, h => h
  | _ :: _, _ :: _, _, _, ⟨h1, h2⟩, h => ⟨h1, h2.append h⟩
theorem ParSem.next {g : ParG} {i : Int} {p : Option Addr} {l c : Nat} {d : List Int} {es : List Ev} {G : Nat → Option Obj} (h : ParSem g i p l c d false es G) (hi : i < g.n) {y : EvRY} (hy : REvPost ⟨p, l, c, d, false, G⟩ y) :
    ParSem g (i + 1) y.p y.l y.c y.d y.bad (es ++ [y.e]) y.G := by
  obtain ⟨y1, y2, y3, y4, y5, y6⟩ := hy
  have y3 : y.l ≤ l := y3
  have y5 : y.e.l ≤ l := y5
  have h0 := h.hi
  have hl := h.hl
  have hu := h.used rfl
  have hxl := h.head.l
  rcases h.sem with ⟨h1, _⟩ | ⟨_, s1, s2, s3⟩
  · cases h1
  refine ⟨h.head, h.sub.trans y1, y2, fun e he => ?_, by simp; omega, by omega, by omega, fun hb => ?_, by simp; omega, ?_⟩
  · rcases List.mem_append.1 he with he | he
    · exact ⟨(h.evs e he).1.mono y1, (h.evs e he).2⟩
    · rw [List.mem_singleton.1 he]; exact ⟨y4, by omega⟩
  · rcases y6 with ⟨q, _⟩ | ⟨_, _, q⟩
    · rw [hb] at q; cases q
    · have q : d = evB y.e ++ y.d := q
      have := congrArg List.length q
      have hd := h.bs.len
      have hyd := y2.len
      have he := evB_len y.e
      simp only [List.length_append, List.length_cons, List.length_nil] at this ⊢
      omega
  · rcases y6 with ⟨q1, q2⟩ | ⟨q1, q2, q3⟩
    · refine .inl ⟨q1, fun ⟨r, hc, hr⟩ => ?_⟩
      rcases q2 with q2 | q2
      · cases q2
      · obtain ⟨_, t2⟩ := s3 r hc hr
        obtain ⟨n1, n2⟩ := h.head.cur.elim (fun h => by cases h.1) fun h => h.2.2 r hc hr
        obtain ⟨_, _, _, _, _, _, n3⟩ := n2
        have hel := hc.el
        have hlt : es.length < r.evs.length := by omega
        rw [List.drop_eq_getElem_cons hlt] at t2
        obtain ⟨k1, k2, k3⟩ := hc.ev _ (List.getElem_mem hlt)
        exact q2 ⟨r.evs[es.length], _, k1, k2, k3, t2⟩
    · have q3 : d = evB y.e ++ y.d := q3
      have q1 : y.bad = false := q1
      refine .inr ⟨q1, fun e he => ?_, ?_, fun r hc hr => ?_⟩
      · rcases List.mem_append.1 he with he | he
        · exact s1 e he
        · rw [List.mem_singleton.1 he]; exact q2
      · rw [s2, q3, evsB_append]; simp [evsB]
      · obtain ⟨t1, t2⟩ := s3 r hc hr
        obtain ⟨n1, n2⟩ := h.head.cur.elim (fun h => by cases h.1) fun h => h.2.2 r hc hr
        obtain ⟨_, _, _, _, _, _, n3⟩ := n2
        have hel := hc.el
        have hlt : es.length < r.evs.length := by omega
        rw [List.drop_eq_getElem_cons hlt, q3] at t2
        obtain ⟨k1, k2, k3⟩ := hc.ev _ (List.getElem_mem hlt)
        have hyl := y4.d.len
        obtain ⟨u1, u2⟩ := ev_inj ⟨q2, y4.a, by omega⟩ ⟨k1, k2, k3⟩ t2
        have e1 : (es ++ [y.e]).length = es.length + 1 := by simp
        rw [e1]
        refine ⟨?_, u2⟩
        rw [take_succ' _ _ hlt]
        exact t1.append ⟨u1, trivial⟩
end Sw
end
