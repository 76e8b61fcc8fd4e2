/- What SwBytes's conditions come to, word for word: made by a program. -/
import Derived.Test.YtafngdeeachggaaGreatSwBytes
set_option maxRecDepth 100000
set_option linter.unusedVariables false
set_option linter.unusedVariables false
set_option linter.unusedSimpArgs false
namespace Sw
open Go Go.Proofs Vx
theorem bytes_vc : (conBytes.Vc body14) = (
∀ (x : Sw.RecX),
 Sw.conBytes.pre x →
∀ (c : Nat) (vs : List Go.Value),
(1 : Nat) ≤ c →
 vs.length = (c - (1 : Nat)) * (1 : Nat) →
(∀ (v : Go.Value), v ∈ vs → v.oneCell' = Bool.true) →
(c - (1 : Nat)) * (1 : Nat) = c - (1 : Nat) ∧
((c - (1 : Nat)) * (1 : Nat) = c - (1 : Nat) →
(1 : Nat) ≤ c ∧
((1 : Nat) ≤ c →
∀ (c : Nat) (vs : List Go.Value),
(2 : Nat) ≤ c →
 vs.length = (c - (2 : Nat)) * (1 : Nat) →
(∀ (v : Go.Value), v ∈ vs → v.oneCell' = Bool.true) →
(c - (2 : Nat)) * (1 : Nat) = c - (2 : Nat) ∧
((c - (2 : Nat)) * (1 : Nat) = c - (2 : Nat) →
(2 : Nat) ≤ c ∧
((2 : Nat) ≤ c →
∀ (c : Nat) (vs : List Go.Value),
(3 : Nat) ≤ c →
 vs.length = (c - (3 : Nat)) * (1 : Nat) →
(∀ (v : Go.Value), v ∈ vs → v.oneCell' = Bool.true) →
(c - (3 : Nat)) * (1 : Nat) = c - (3 : Nat) ∧
((c - (3 : Nat)) * (1 : Nat) = c - (3 : Nat) →
(3 : Nat) ≤ c ∧
((3 : Nat) ≤ c →
∀ (c : Nat) (vs : List Go.Value),
(4 : Nat) ≤ c →
 vs.length = (c - (4 : Nat)) * (1 : Nat) →
(∀ (v : Go.Value), v ∈ vs → v.oneCell' = Bool.true) →
(c - (4 : Nat)) * (1 : Nat) = c - (4 : Nat) ∧
((c - (4 : Nat)) * (1 : Nat) = c - (4 : Nat) →
(4 : Nat) ≤ c ∧
((4 : Nat) ≤ c →
∀ (c : Nat) (vs : List Go.Value),
(5 : Nat) ≤ c →
 vs.length = (c - (5 : Nat)) * (1 : Nat) →
(∀ (v : Go.Value), v ∈ vs → v.oneCell' = Bool.true) →
(c - (5 : Nat)) * (1 : Nat) = c - (5 : Nat) ∧
((c - (5 : Nat)) * (1 : Nat) = c - (5 : Nat) →
(5 : Nat) ≤ c ∧
((5 : Nat) ≤ c →
∀ (c : Nat) (vs : List Go.Value),
(6 : Nat) ≤ c →
 vs.length = (c - (6 : Nat)) * (1 : Nat) →
(∀ (v : Go.Value), v ∈ vs → v.oneCell' = Bool.true) →
∃ (x_1 : Sw.OutX),
 x_1.xs.length = (6 : Nat) ∧
 x_1.xs.length + x_1.vs.length = c ∧
 x_1.n = x.ram ∧
 x_1.xs =
[(246 : Int)] ++
([(210 : Int)] ++
([(201 : Int)] ++
([(171 : Int)] ++
([(246 : Int)] ++ [(13 : Int)])))) ∧
 x_1.xs.length = (6 : Nat) ∧
 x_1.vs = vs ∧
 x_1.vs.length = (c - (6 : Nat)) * (1 : Nat) ∧
 Vx.Sub (Sw.conNum.G x_1) x.G ∧
 Sw.conNum.pre x_1 ∧
∀ (y : Sw.OutY),
 Sw.conNum.post x_1 y →
 x.locked = x.locked ∧
 x.sec = x.sec ∧
∃ (x_2 : Sw.OutX),
 x_2.xs.length = y.xs.length ∧
 x_2.xs.length + x_2.vs.length =
 y.xs.length + y.vs.length ∧
 x_2.n = x.sec ∧
 x_2.xs = y.xs ∧
 x_2.xs.length = y.xs.length ∧
 x_2.vs = y.vs ∧
 x_2.vs.length =
 y.vs.length ∧
 Vx.Sub (Sw.conNum.G x_2)
 x_1.G ∧
 Sw.conNum.pre x_2 ∧
∀ (y : Sw.OutY),
 Sw.conNum.post x_2
 y →
 x.locked =
 x.locked ∧
∃ (x_3 :
 Sw.FlagX),
 x_3.b =
 x.locked ∧
 Vx.Sub
(Sw.conFlag.G
 x_3)
 x_2.G ∧
 Sw.conFlag.pre
 x_3 ∧
∀
(y_1 :
 Int),
 Sw.conFlag.post
 x_3
 y_1 →
∃
(x_4
:
 Sw.OutX),
 x_4.xs.length =
 y.xs.length ∧
 x_4.xs.length +
 x_4.vs.length =
 y.xs.length +
 y.vs.length ∧
 x_4.n =
 y_1 ∧
 x_4.xs =
 y.xs ∧
 x_4.xs.length =
 y.xs.length ∧
 x_4.vs =
 y.vs ∧
 x_4.vs.length =
 y.vs.length ∧
 Vx.Sub
(Sw.conNum.G
 x_4)
 x_3.G ∧
 Sw.conNum.pre
 x_4 ∧
∀
(y :
 Sw.OutY),
 Sw.conNum.post
 x_4
 y →
∃
(x_5
:
 Sw.PieceX),
 x_5.xs.length =
 y.xs.length ∧
 x_5.xs.length +
 x_5.vs.length =
 y.xs.length +
 y.vs.length ∧
 x_5.r.ram =
 x.ram ∧
 x_5.r.sec =
 x.sec ∧
 x_5.r.locked =
 x.locked ∧
 x_5.r.dp =
 x.dp ∧
 x_5.r.dl =
 x.dl ∧
 x_5.r.dc =
 x.dc ∧
 x_5.r.ip =
 x.ip ∧
 x_5.r.il =
 x.il ∧
 x_5.r.ic =
 x.ic ∧
 x_5.r.name =
 x.name ∧
 x_5.r.ep =
 x.ep ∧
 x_5.r.el =
 x.el ∧
 x_5.r.ec =
 x.ec ∧
 x_5.xs =
 y.xs ∧
 x_5.xs.length =
 y.xs.length ∧
 x_5.vs =
 y.vs ∧
 x_5.vs.length =
 y.vs.length ∧
 Vx.Sub
(Sw.textP.G
 x_5)
 x_4.G ∧
 Sw.textP.pre
 x_5 ∧
(∀
(d :
 Nat →
 Go.Value),
(∃
(x
:
 Sw.TextX),
 x.xs.length =
 x_5.xs.length ∧
 x.xs.length +
 x.vs.length =
 x_5.xs.length +
 x_5.vs.length ∧
 x.p =
 x_5.r.dp ∧
 x.l =
 x_5.r.dl ∧
 x.c =
 x_5.r.dc ∧
 x.xs =
 x_5.xs ∧
 x.xs.length =
 x_5.xs.length ∧
 x.vs =
 x_5.vs ∧
 x.vs.length =
 x_5.vs.length ∧
 Vx.Sub
(Sw.conTextG.G
 x)
 x_5.r.G ∧
 Sw.conTextG.pre
 x ∧
∀
(y :
 Sw.OutY),
 Sw.conTextG.post
 x
 y →
 x_5.r.name =
 x_5.r.name ∧
 x_5.r.ip =
 x_5.r.ip ∧
 x_5.r.il =
 x_5.r.il ∧
 x_5.r.ic =
 x_5.r.ic ∧
(∃
(x_6
:
 Sw.TextX),
 x_6.xs.length =
 y.xs.length ∧
 x_6.xs.length +
 x_6.vs.length =
 y.xs.length +
 y.vs.length ∧
 x_6.p =
 x_5.r.ip ∧
 x_6.l =
 x_5.r.il ∧
 x_6.c =
 x_5.r.ic ∧
 x_6.xs =
 y.xs ∧
 x_6.xs.length =
 y.xs.length ∧
 x_6.vs =
 y.vs ∧
 x_6.vs.length =
 y.vs.length ∧
 Vx.Sub
(Sw.conTextG.G
 x_6)
 x.G ∧
 Sw.conTextG.pre
 x_6 ∧
∀
(y :
 Sw.OutY),
 Sw.conTextG.post
 x_6
 y →
 x_5.r.name =
 x_5.r.name ∧
∀
(c :
 Nat)
(vs :
 List
 Go.Value),
 x_5.r.name.size ≤
 c →
 vs.length =
 c -
 x_5.r.name.size →
(∀
(v :
 Go.Value),
 v ∈
 vs →
 v.oneCell' =
 Bool.true) →
∃
(x
:
 Sw.TextY),
 x.xs.length =
 y.xs.length ∧
 x.xs.length +
 x.vs.length =
 y.xs.length +
 y.vs.length ∧
 x.d.length =
 x_5.r.name.size ∧
 x.d.length +
 x.ws.length =
 c ∧
 x.xs =
 y.xs ∧
 x.xs.length =
 y.xs.length ∧
 x.vs =
 y.vs ∧
 x.vs.length =
 y.vs.length ∧
 x.d =
 Vx.bytesOf
 x_5.r.name ∧
 x.d.length =
 x_5.r.name.size ∧
 x.ws =
 vs ∧
 x.ws.length =
 c -
 x_5.r.name.size ∧
 Vx.Sub
(Sw.conTextS.G
 x)
 x_6.G ∧
 Sw.conTextS.pre
 x ∧
∀
(y :
 Sw.OutY),
 Sw.conTextS.post
 x
 y →
∃
(y_2
:
 Sw.OutY),
 Sw.textP.post
 x_5
 y_2 ∧
 y_2.xs.length =
 y.xs.length ∧
 y_2.xs.length +
 y_2.vs.length =
 y.xs.length +
 y.vs.length ∧
 x_5.r.ram =
 x_5.r.ram ∧
 x_5.r.sec =
 x_5.r.sec ∧
 x_5.r.locked =
 x_5.r.locked ∧
 x_5.r.dp =
 x_5.r.dp ∧
 x_5.r.dl =
 x_5.r.dl ∧
 x_5.r.dc =
 x_5.r.dc ∧
 x_5.r.ip =
 x_5.r.ip ∧
 x_5.r.il =
 x_5.r.il ∧
 x_5.r.ic =
 x_5.r.ic ∧
 x_5.r.name =
 x_5.r.name ∧
 x_5.r.ep =
 x_5.r.ep ∧
 x_5.r.el =
 x_5.r.el ∧
 x_5.r.ec =
 x_5.r.ec ∧
 y_2.xs =
 y.xs ∧
 y_2.xs.length =
 y.xs.length ∧
 y_2.vs =
 y.vs ∧
 y_2.vs.length =
 y.vs.length ∧
 Vx.Sub
(Sw.textP.G'
 x_5
 y_2)
 x.G ∧
 True) ∧
∀
(c :
 Nat)
(vs :
 List
 Go.Value),
 x_5.r.name.size ≤
 c →
 vs.length =
 c -
 x_5.r.name.size →
(∀
(v :
 Go.Value),
 v ∈
 vs →
 v.oneCell' =
 Bool.true) →
 x_5.r.ip =
 x_5.r.ip ∧
 x_5.r.il =
 x_5.r.il ∧
 x_5.r.ic =
 x_5.r.ic ∧
∃
(x_6
:
 Sw.TextX),
 x_6.xs.length =
 y.xs.length ∧
 x_6.xs.length +
 x_6.vs.length =
 y.xs.length +
 y.vs.length ∧
 x_6.p =
 x_5.r.ip ∧
 x_6.l =
 x_5.r.il ∧
 x_6.c =
 x_5.r.ic ∧
 x_6.xs =
 y.xs ∧
 x_6.xs.length =
 y.xs.length ∧
 x_6.vs =
 y.vs ∧
 x_6.vs.length =
 y.vs.length ∧
 Vx.Sub
(Sw.conTextG.G
 x_6)
 x.G ∧
 Sw.conTextG.pre
 x_6 ∧
∀
(y :
 Sw.OutY),
 Sw.conTextG.post
 x_6
 y →
∃
(x
:
 Sw.TextY),
 x.xs.length =
 y.xs.length ∧
 x.xs.length +
 x.vs.length =
 y.xs.length +
 y.vs.length ∧
 x.d.length =
 x_5.r.name.size ∧
 x.d.length +
 x.ws.length =
 c ∧
 x.xs =
 y.xs ∧
 x.xs.length =
 y.xs.length ∧
 x.vs =
 y.vs ∧
 x.vs.length =
 y.vs.length ∧
 x.d =
 Vx.bytesOf
 x_5.r.name ∧
 x.d.length =
 x_5.r.name.size ∧
 x.ws =
 vs ∧
 x.ws.length =
 c -
 x_5.r.name.size ∧
 Vx.Sub
(Sw.conTextS.G
 x)
 x_6.G ∧
 Sw.conTextS.pre
 x ∧
∀
(y :
 Sw.OutY),
 Sw.conTextS.post
 x
 y →
∃
(y_2
:
 Sw.OutY),
 Sw.textP.post
 x_5
 y_2 ∧
 y_2.xs.length =
 y.xs.length ∧
 y_2.xs.length +
 y_2.vs.length =
 y.xs.length +
 y.vs.length ∧
 x_5.r.ram =
 x_5.r.ram ∧
 x_5.r.sec =
 x_5.r.sec ∧
 x_5.r.locked =
 x_5.r.locked ∧
 x_5.r.dp =
 x_5.r.dp ∧
 x_5.r.dl =
 x_5.r.dl ∧
 x_5.r.dc =
 x_5.r.dc ∧
 x_5.r.ip =
 x_5.r.ip ∧
 x_5.r.il =
 x_5.r.il ∧
 x_5.r.ic =
 x_5.r.ic ∧
 x_5.r.name =
 x_5.r.name ∧
 x_5.r.ep =
 x_5.r.ep ∧
 x_5.r.el =
 x_5.r.el ∧
 x_5.r.ec =
 x_5.r.ec ∧
 y_2.xs =
 y.xs ∧
 y_2.xs.length =
 y.xs.length ∧
 y_2.vs =
 y.vs ∧
 y_2.vs.length =
 y.vs.length ∧
 Vx.Sub
(Sw.textP.G'
 x_5
 y_2)
 x.G ∧
 True) ∧
∀
(c :
 Nat)
(vs :
 List
 Go.Value),
 x_5.r.name.size ≤
 c →
 vs.length =
 c -
 x_5.r.name.size →
(∀
(v :
 Go.Value),
 v ∈
 vs →
 v.oneCell' =
 Bool.true) →
 x_5.r.ip =
 x_5.r.ip ∧
 x_5.r.il =
 x_5.r.il ∧
 x_5.r.ic =
 x_5.r.ic ∧
 x_5.r.dp =
 x_5.r.dp ∧
 x_5.r.dl =
 x_5.r.dl ∧
 x_5.r.dc =
 x_5.r.dc ∧
∃
(x
:
 Sw.TextX),
 x.xs.length =
 x_5.xs.length ∧
 x.xs.length +
 x.vs.length =
 x_5.xs.length +
 x_5.vs.length ∧
 x.p =
 x_5.r.dp ∧
 x.l =
 x_5.r.dl ∧
 x.c =
 x_5.r.dc ∧
 x.xs =
 x_5.xs ∧
 x.xs.length =
 x_5.xs.length ∧
 x.vs =
 x_5.vs ∧
 x.vs.length =
 x_5.vs.length ∧
 Vx.Sub
(Sw.conTextG.G
 x)
 x_5.r.G ∧
 Sw.conTextG.pre
 x ∧
∀
(y :
 Sw.OutY),
 Sw.conTextG.post
 x
 y →
 x_5.r.ip =
 x_5.r.ip ∧
 x_5.r.il =
 x_5.r.il ∧
 x_5.r.ic =
 x_5.r.ic ∧
∃
(x_6
:
 Sw.TextX),
 x_6.xs.length =
 y.xs.length ∧
 x_6.xs.length +
 x_6.vs.length =
 y.xs.length +
 y.vs.length ∧
 x_6.p =
 x_5.r.ip ∧
 x_6.l =
 x_5.r.il ∧
 x_6.c =
 x_5.r.ic ∧
 x_6.xs =
 y.xs ∧
 x_6.xs.length =
 y.xs.length ∧
 x_6.vs =
 y.vs ∧
 x_6.vs.length =
 y.vs.length ∧
 Vx.Sub
(Sw.conTextG.G
 x_6)
 x.G ∧
 Sw.conTextG.pre
 x_6 ∧
∀
(y :
 Sw.OutY),
 Sw.conTextG.post
 x_6
 y →
∃
(x
:
 Sw.TextY),
 x.xs.length =
 y.xs.length ∧
 x.xs.length +
 x.vs.length =
 y.xs.length +
 y.vs.length ∧
 x.d.length =
 x_5.r.name.size ∧
 x.d.length +
 x.ws.length =
 c ∧
 x.xs =
 y.xs ∧
 x.xs.length =
 y.xs.length ∧
 x.vs =
 y.vs ∧
 x.vs.length =
 y.vs.length ∧
 x.d =
 Vx.bytesOf
 x_5.r.name ∧
 x.d.length =
 x_5.r.name.size ∧
 x.ws =
 vs ∧
 x.ws.length =
 c -
 x_5.r.name.size ∧
 Vx.Sub
(Sw.conTextS.G
 x)
 x_6.G ∧
 Sw.conTextS.pre
 x ∧
∀
(y :
 Sw.OutY),
 Sw.conTextS.post
 x
 y →
∃
(y_2
:
 Sw.OutY),
 Sw.textP.post
 x_5
 y_2 ∧
 y_2.xs.length =
 y.xs.length ∧
 y_2.xs.length +
 y_2.vs.length =
 y.xs.length +
 y.vs.length ∧
 x_5.r.ram =
 x_5.r.ram ∧
 x_5.r.sec =
 x_5.r.sec ∧
 x_5.r.locked =
 x_5.r.locked ∧
 x_5.r.dp =
 x_5.r.dp ∧
 x_5.r.dl =
 x_5.r.dl ∧
 x_5.r.dc =
 x_5.r.dc ∧
 x_5.r.ip =
 x_5.r.ip ∧
 x_5.r.il =
 x_5.r.il ∧
 x_5.r.ic =
 x_5.r.ic ∧
 x_5.r.name =
 x_5.r.name ∧
 x_5.r.ep =
 x_5.r.ep ∧
 x_5.r.el =
 x_5.r.el ∧
 x_5.r.ec =
 x_5.r.ec ∧
 y_2.xs =
 y.xs ∧
 y_2.xs.length =
 y.xs.length ∧
 y_2.vs =
 y.vs ∧
 y_2.vs.length =
 y.vs.length ∧
 Vx.Sub
(Sw.textP.G'
 x_5
 y_2)
 x.G ∧
 True) ∧
∀
(y :
 Sw.OutY),
 Sw.textP.post
 x_5
 y →
∀
(d :
 Nat →
 Go.Value)
(r :
 Int),
 r =
 Go.IntKind.u64.wrap
(↑x_5.r.el :
 Int) →
∃
(x_6
:
 Sw.OutX),
 x_6.xs.length =
 y.xs.length ∧
 x_6.xs.length +
 x_6.vs.length =
 y.xs.length +
 y.vs.length ∧
 x_6.n =
 r ∧
 x_6.xs =
 y.xs ∧
 x_6.xs.length =
 y.xs.length ∧
 x_6.vs =
 y.vs ∧
 x_6.vs.length =
 y.vs.length ∧
 Vx.Sub
(Sw.conNum.G
 x_6)
 x_5.r.G ∧
 Sw.conNum.pre
 x_6 ∧
∀
(y :
 Sw.OutY),
 Sw.conNum.post
 x_6
 y →
∃
(g
:
 Sw.RecX),
∃
(x0
:
 Sw.LoopX),
 x0.xs.length =
 y.xs.length ∧
 x0.xs.length +
 x0.vs.length =
 y.xs.length +
 y.vs.length ∧
 g.ep =
 x_5.r.ep ∧
 g.el =
 x_5.r.el ∧
 g.ec =
 x_5.r.ec ∧
(↑g.el :
 Int) =
(↑x_5.r.el :
 Int) ∧
(↑x0.i :
 Int) =
(0 :
 Int) ∧
 x0.xs =
 y.xs ∧
 x0.xs.length =
 y.xs.length ∧
 x0.vs =
 y.vs ∧
 x0.vs.length =
 y.vs.length ∧
 Vx.Sub
((Sw.bytesL
 g).G
 x0)
 x_6.G ∧
(Sw.bytesL
 g).inv
 x0 ∧
∀
(x_7 :
 Sw.LoopX),
(Sw.bytesL
 g).inv
 x_7 →
∀
(d :
 Nat →
 Go.Value),
(Decidable.decide
((↑x_7.i :
 Int) <
(↑g.el :
 Int)) =
 Bool.true →
((0 :
 Int) ≤
(↑x_7.i :
 Int) ∧
(↑x_7.i :
 Int) <
(↑g.el :
 Int)) ∧
((0 :
 Int) ≤
(↑x_7.i :
 Int) ∧
(↑x_7.i :
 Int) <
(↑g.el :
 Int) →
∃
(b
:
 Nat),
∃
(o
:
 Nat),
 g.ep =
 Option.some
{
 block :=
 b,
 off :=
 o } ∧
∃
(x
:
 Int),
∃
(x_8
:
 Int),
∃
(a
:
 Option
 Go.Addr),
∃
(l
:
 Nat),
∃
(c
:
 Nat),
 Vx.Rd
 g.G
 b
(o +
(↑x_7.i :
 Int).toNat *
(3 :
 Nat))
[Go.Value.int
 Go.IntKind.i64
 x,
 Go.Value.int
 Go.IntKind.u64
 x_8,
 Go.Value.slice
 a
 l
 c] ∧
∀
(r :
 Int),
 r =
 Go.IntKind.u64.wrap
 x →
∃
(x_9
:
 Sw.OutX),
 x_9.xs.length =
 x_7.xs.length ∧
 x_9.xs.length +
 x_9.vs.length =
 x_7.xs.length +
 x_7.vs.length ∧
 x_9.n =
 r ∧
 x_9.xs =
 x_7.xs ∧
 x_9.xs.length =
 x_7.xs.length ∧
 x_9.vs =
 x_7.vs ∧
 x_9.vs.length =
 x_7.vs.length ∧
 Vx.Sub
(Sw.conNum.G
 x_9)
 g.G ∧
 Sw.conNum.pre
 x_9 ∧
∀
(y :
 Sw.OutY),
 Sw.conNum.post
 x_9
 y →
 a =
 a ∧
 l =
 l ∧
 c =
 c ∧
 x_8 =
 x_8 ∧
 x =
 x ∧
∃
(x_10
:
 Sw.OutX),
 x_10.xs.length =
 y.xs.length ∧
 x_10.xs.length +
 x_10.vs.length =
 y.xs.length +
 y.vs.length ∧
 x_10.n =
 x_8 ∧
 x_10.xs =
 y.xs ∧
 x_10.xs.length =
 y.xs.length ∧
 x_10.vs =
 y.vs ∧
 x_10.vs.length =
 y.vs.length ∧
 Vx.Sub
(Sw.conNum.G
 x_10)
 x_9.G ∧
 Sw.conNum.pre
 x_10 ∧
∀
(y :
 Sw.OutY),
 Sw.conNum.post
 x_10
 y →
 a =
 a ∧
 l =
 l ∧
 c =
 c ∧
 x =
 x ∧
∃
(x_11
:
 Sw.TextX),
 x_11.xs.length =
 y.xs.length ∧
 x_11.xs.length +
 x_11.vs.length =
 y.xs.length +
 y.vs.length ∧
 x_11.p =
 a ∧
 x_11.l =
 l ∧
 x_11.c =
 c ∧
 x_11.xs =
 y.xs ∧
 x_11.xs.length =
 y.xs.length ∧
 x_11.vs =
 y.vs ∧
 x_11.vs.length =
 y.vs.length ∧
 Vx.Sub
(Sw.conTextG.G
 x_11)
 x_10.G ∧
 Sw.conTextG.pre
 x_11 ∧
∀
(y :
 Sw.OutY),
 Sw.conTextG.post
 x_11
 y →
 x =
 x ∧
∀
(r :
 Int),
 r =
 Go.IntKind.i64.wrap
((↑x_7.i :
 Int) +
(1 :
 Int)) →
∃
(x'
:
 Sw.LoopX),
(Sw.bytesL
 g).inv
 x' ∧
(Sw.bytesL
 g).mea
 x' <
(Sw.bytesL
 g).mea
 x_7 ∧
 x'.xs.length =
 y.xs.length ∧
 x'.xs.length +
 x'.vs.length =
 y.xs.length +
 y.vs.length ∧
 g.ep =
 g.ep ∧
 g.el =
 g.el ∧
 g.ec =
 g.ec ∧
(↑g.el :
 Int) =
(↑g.el :
 Int) ∧
(↑x'.i :
 Int) =
 r ∧
 x'.xs =
 y.xs ∧
 x'.xs.length =
 y.xs.length ∧
 x'.vs =
 y.vs ∧
 x'.vs.length =
 y.vs.length ∧
 Vx.Sub
((Sw.bytesL
 g).G
 x')
 x_11.G ∧
 True)) ∧
(Decidable.decide
((↑x_7.i :
 Int) <
(↑g.el :
 Int)) =
 Bool.false →
∃
(x_8
:
 Sw.ListX),
 x_8.xs.length =
 x_7.xs.length ∧
 x_8.xs.length +
 x_8.vs.length =
 x_7.xs.length +
 x_7.vs.length ∧
 x_8.xs =
 x_7.xs ∧
 x_8.xs.length =
 x_7.xs.length ∧
 x_8.vs =
 x_7.vs ∧
 x_8.vs.length =
 x_7.vs.length ∧
 Vx.Sub
(Sw.conSum.G
 x_8)
 g.G ∧
 Sw.conSum.pre
 x_8 ∧
∀
(y :
 Int),
 Sw.conSum.post
 x_8
 y →
∀
(vs :
 List
 Go.Value),
 vs.length =
(8 :
 Nat) →
(∀
(v :
 Go.Value),
 v ∈
 vs →
 v.oneCell' =
 Bool.true) →
∀
(r :
 Int),
 r =
 Go.IntKind.u8.wrap
 y →
∀
(r_1 :
 Int),
 r_1 =
 Vx.shft
 Go.BinOp.shr
 Go.IntKind.u64
 y
(8 :
 Int) →
∀
(r_2 :
 Int),
 r_2 =
 Go.IntKind.u8.wrap
 r_1 →
∀
(r_3 :
 Int),
 r_3 =
 Vx.shft
 Go.BinOp.shr
 Go.IntKind.u64
 r_1
(8 :
 Int) →
∀
(r_4 :
 Int),
 r_4 =
 Go.IntKind.u8.wrap
 r_3 →
∀
(r_5 :
 Int),
 r_5 =
 Vx.shft
 Go.BinOp.shr
 Go.IntKind.u64
 r_3
(8 :
 Int) →
∀
(r_6 :
 Int),
 r_6 =
 Go.IntKind.u8.wrap
 r_5 →
∀
(r_7 :
 Int),
 r_7 =
 Vx.shft
 Go.BinOp.shr
 Go.IntKind.u64
 r_5
(8 :
 Int) →
 x_7.xs.length +
(4 :
 Nat) ≤
(140737488355328 :
 Nat) ∧
(x_7.xs.length +
(4 :
 Nat) ≤
(140737488355328 :
 Nat) →
 x_7.xs.length +
(4 :
 Nat) ≤
(9223372036854775807 :
 Nat) ∧
(x_7.xs.length +
(4 :
 Nat) ≤
(9223372036854775807 :
 Nat) →
 x_8.xs.length =
 x_7.xs.length ∧
(x_8.xs.length =
 x_7.xs.length →
 x_8.vs.length =
 x_7.xs.length +
 x_7.vs.length -
 x_7.xs.length ∧
(x_8.vs.length =
 x_7.xs.length +
 x_7.vs.length -
 x_7.xs.length →
 x_7.xs.length ≤
 x_7.xs.length +
 x_7.vs.length ∧
(x_7.xs.length ≤
 x_7.xs.length +
 x_7.vs.length →
∀
(c :
 Nat)
(vs :
 List
 Go.Value),
 x_7.xs.length +
(4 :
 Nat) ≤
 c →
 vs.length =
(c -
(x_7.xs.length +
(4 :
 Nat))) *
(1 :
 Nat) →
(∀
(v :
 Go.Value),
 v ∈
 vs →
 v.oneCell' =
 Bool.true) →
∃
(y
:
 Sw.OutY),
 Sw.conBytes.post
 x
 y ∧
 y.xs.length =
 x_7.xs.length +
(4 :
 Nat) ∧
 y.xs.length +
 y.vs.length =
 c ∧
 y.xs =
 x_8.xs ++
((Vx.IL.fill
(Int.toNat
(0 :
 Int))
(0 :
 Int)
[]).den ++
([r] ++
([r_2] ++
([r_4] ++
[r_6])))) ∧
 y.xs.length =
 x_8.xs.length +
(4 :
 Nat) ∧
 y.vs =
 vs ∧
 y.vs.length =
(c -
(x_7.xs.length +
(4 :
 Nat))) *
(1 :
 Nat) ∧
 Vx.Sub
(Sw.conBytes.G'
 x
 y)
 x_8.G ∧
 True))))))))))))))))) := by kernel_rfl
end Sw
