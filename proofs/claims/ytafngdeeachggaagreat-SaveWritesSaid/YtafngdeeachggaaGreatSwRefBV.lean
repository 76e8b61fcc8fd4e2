/- What SwRefB's conditions come to, word for word: made by a program. -/
import Derived.Test.YtafngdeeachggaaGreatSwRefB
set_option maxRecDepth 100000
set_option linter.unusedVariables false
set_option linter.unusedVariables false
set_option linter.unusedSimpArgs false
namespace Sw
open Go Go.Proofs Vx
theorem ref_vc : (conRef.Vc body15) = (
∀ (x : Sw.RecX),
 Sw.conRef.pre x →
∀ (c : Nat) (vs : List Go.Value),
(1 : Nat) ≤ c →
 vs.length = (c - (1 : Nat)) * (1 : Nat) →
(∀ (v : Go.Value), v ∈ vs → v.oneCell' = Bool.true) →
(c - (1 : Nat)) * (1 : Nat) = c - (1 : Nat) ∧
((c - (1 : Nat)) * (1 : Nat) = c - (1 : Nat) →
(1 : Nat) ≤ c ∧
((1 : Nat) ≤ c →
∀ (c : Nat) (vs : List Go.Value),
(2 : Nat) ≤ c →
 vs.length = (c - (2 : Nat)) * (1 : Nat) →
(∀ (v : Go.Value), v ∈ vs → v.oneCell' = Bool.true) →
(c - (2 : Nat)) * (1 : Nat) = c - (2 : Nat) ∧
((c - (2 : Nat)) * (1 : Nat) = c - (2 : Nat) →
(2 : Nat) ≤ c ∧
((2 : Nat) ≤ c →
∀ (c : Nat) (vs : List Go.Value),
(3 : Nat) ≤ c →
 vs.length = (c - (3 : Nat)) * (1 : Nat) →
(∀ (v : Go.Value), v ∈ vs → v.oneCell' = Bool.true) →
(c - (3 : Nat)) * (1 : Nat) = c - (3 : Nat) ∧
((c - (3 : Nat)) * (1 : Nat) = c - (3 : Nat) →
(3 : Nat) ≤ c ∧
((3 : Nat) ≤ c →
∀ (c : Nat) (vs : List Go.Value),
(4 : Nat) ≤ c →
 vs.length = (c - (4 : Nat)) * (1 : Nat) →
(∀ (v : Go.Value), v ∈ vs → v.oneCell' = Bool.true) →
(c - (4 : Nat)) * (1 : Nat) = c - (4 : Nat) ∧
((c - (4 : Nat)) * (1 : Nat) = c - (4 : Nat) →
(4 : Nat) ≤ c ∧
((4 : Nat) ≤ c →
∀ (c : Nat) (vs : List Go.Value),
(5 : Nat) ≤ c →
 vs.length = (c - (5 : Nat)) * (1 : Nat) →
(∀ (v : Go.Value), v ∈ vs → v.oneCell' = Bool.true) →
(c - (5 : Nat)) * (1 : Nat) = c - (5 : Nat) ∧
((c - (5 : Nat)) * (1 : Nat) = c - (5 : Nat) →
(5 : Nat) ≤ c ∧
((5 : Nat) ≤ c →
∀ (c : Nat) (vs : List Go.Value),
(6 : Nat) ≤ c →
 vs.length = (c - (6 : Nat)) * (1 : Nat) →
(∀ (v : Go.Value), v ∈ vs → v.oneCell' = Bool.true) →
∃ (x_1 : Sw.OutX),
 x_1.xs.length = (6 : Nat) ∧
 x_1.xs.length + x_1.vs.length = c ∧
 x_1.n = x.ram ∧
 x_1.xs =
[(246 : Int)] ++
([(210 : Int)] ++
([(201 : Int)] ++
([(171 : Int)] ++
([(246 : Int)] ++ [(13 : Int)])))) ∧
 x_1.xs.length = (6 : Nat) ∧
 x_1.vs = vs ∧
 x_1.vs.length = (c - (6 : Nat)) * (1 : Nat) ∧
 Vx.Sub
((Sw.conNumR (18446744073709551616 : Nat)).G
 x_1)
 x.G ∧
(Sw.conNumR (18446744073709551616 : Nat)).pre
 x_1 ∧
∀ (y : Sw.OutY),
(Sw.conNumR (18446744073709551616 : Nat)).post
 x_1 y →
∃ (x_2 : Sw.OutX),
 x_2.xs.length = y.xs.length ∧
 x_2.xs.length + x_2.vs.length =
 y.xs.length + y.vs.length ∧
 x_2.n = x.sec ∧
 x_2.xs = y.xs ∧
 x_2.xs.length = y.xs.length ∧
 x_2.vs = y.vs ∧
 x_2.vs.length = y.vs.length ∧
 Vx.Sub
((Sw.conNumR
(18446744073709551616 :
 Nat)).G
 x_2)
 x_1.G ∧
(Sw.conNumR
(18446744073709551616 :
 Nat)).pre
 x_2 ∧
∀ (y : Sw.OutY),
(Sw.conNumR
(18446744073709551616 :
 Nat)).post
 x_2 y →
(x.locked =
 Bool.true →
∃ (x_3 :
 Sw.OutX),
 x_3.xs.length =
 y.xs.length ∧
 x_3.xs.length +
 x_3.vs.length =
 y.xs.length +
 y.vs.length ∧
 x_3.n =
(1 :
 Int) ∧
 x_3.xs =
 y.xs ∧
 x_3.xs.length =
 y.xs.length ∧
 x_3.vs =
 y.vs ∧
 x_3.vs.length =
 y.vs.length ∧
 Vx.Sub
((Sw.conNumR
(18446744073709551616 :
 Nat)).G
 x_3)
 x_2.G ∧
(Sw.conNumR
(18446744073709551616 :
 Nat)).pre
 x_3 ∧
∀
(y :
 Sw.OutY),
(Sw.conNumR
(18446744073709551616 :
 Nat)).post
 x_3
 y →
∃
(x_4
:
 Sw.TextX),
 x_4.xs.length =
 y.xs.length ∧
 x_4.xs.length +
 x_4.vs.length =
 y.xs.length +
 y.vs.length ∧
 x_4.p =
 x.dp ∧
 x_4.l =
 x.dl ∧
 x_4.c =
 x.dc ∧
 x_4.xs =
 y.xs ∧
 x_4.xs.length =
 y.xs.length ∧
 x_4.vs =
 y.vs ∧
 x_4.vs.length =
 y.vs.length ∧
 Vx.Sub
(Sw.conTextG.G
 x_4)
 x_3.G ∧
 Sw.conTextG.pre
 x_4 ∧
∀
(y :
 Sw.OutY),
 Sw.conTextG.post
 x_4
 y →
∃
(x_5
:
 Sw.TextX),
 x_5.xs.length =
 y.xs.length ∧
 x_5.xs.length +
 x_5.vs.length =
 y.xs.length +
 y.vs.length ∧
 x_5.p =
 x.ip ∧
 x_5.l =
 x.il ∧
 x_5.c =
 x.ic ∧
 x_5.xs =
 y.xs ∧
 x_5.xs.length =
 y.xs.length ∧
 x_5.vs =
 y.vs ∧
 x_5.vs.length =
 y.vs.length ∧
 Vx.Sub
(Sw.conTextG.G
 x_5)
 x_4.G ∧
 Sw.conTextG.pre
 x_5 ∧
∀
(y :
 Sw.OutY),
 Sw.conTextG.post
 x_5
 y →
∀
(c :
 Nat)
(vs :
 List
 Go.Value),
 x.name.size ≤
 c →
 vs.length =
 c -
 x.name.size →
(∀
(v :
 Go.Value),
 v ∈
 vs →
 v.oneCell' =
 Bool.true) →
∃
(x_6
:
 Sw.TextY),
 x_6.xs.length =
 y.xs.length ∧
 x_6.xs.length +
 x_6.vs.length =
 y.xs.length +
 y.vs.length ∧
 x_6.d.length =
 x.name.size ∧
 x_6.d.length +
 x_6.ws.length =
 c ∧
 x_6.xs =
 y.xs ∧
 x_6.xs.length =
 y.xs.length ∧
 x_6.vs =
 y.vs ∧
 x_6.vs.length =
 y.vs.length ∧
 x_6.d =
 Vx.bytesOf
 x.name ∧
 x_6.d.length =
 x.name.size ∧
 x_6.ws =
 vs ∧
 x_6.ws.length =
 c -
 x.name.size ∧
 Vx.Sub
(Sw.conTextS.G
 x_6)
 x_5.G ∧
 Sw.conTextS.pre
 x_6 ∧
∀
(y :
 Sw.OutY),
 Sw.conTextS.post
 x_6
 y →
∀
(r :
 Int),
 r =
 Go.IntKind.u64.wrap
(↑x.el :
 Int) →
∃
(x_7
:
 Sw.OutX),
 x_7.xs.length =
 y.xs.length ∧
 x_7.xs.length +
 x_7.vs.length =
 y.xs.length +
 y.vs.length ∧
 x_7.n =
 r ∧
 x_7.xs =
 y.xs ∧
 x_7.xs.length =
 y.xs.length ∧
 x_7.vs =
 y.vs ∧
 x_7.vs.length =
 y.vs.length ∧
 Vx.Sub
((Sw.conNumR
(18446744073709551616 :
 Nat)).G
 x_7)
 x_6.G ∧
(Sw.conNumR
(18446744073709551616 :
 Nat)).pre
 x_7 ∧
∀
(y :
 Sw.OutY),
(Sw.conNumR
(18446744073709551616 :
 Nat)).post
 x_7
 y →
∃
(g
:
 Sw.RecX),
∃
(x0
:
 Sw.LoopX),
 x0.xs.length =
 y.xs.length ∧
 x0.xs.length +
 x0.vs.length =
 y.xs.length +
 y.vs.length ∧
(↑x0.i :
 Int) =
(0 :
 Int) ∧
 g.ram =
 x.ram ∧
 g.sec =
 x.sec ∧
 g.locked =
 x.locked ∧
 g.dp =
 x.dp ∧
 g.dl =
 x.dl ∧
 g.dc =
 x.dc ∧
 g.ip =
 x.ip ∧
 g.il =
 x.il ∧
 g.ic =
 x.ic ∧
 g.name =
 x.name ∧
 g.ep =
 x.ep ∧
 g.el =
 x.el ∧
 g.ec =
 x.ec ∧
 x0.xs =
 y.xs ∧
 x0.xs.length =
 y.xs.length ∧
 x0.vs =
 y.vs ∧
 x0.vs.length =
 y.vs.length ∧
 Vx.Sub
((Sw.refL
 g).G
 x0)
 x_7.G ∧
(Sw.refL
 g).inv
 x0 ∧
∀
(x_8 :
 Sw.LoopX),
(Sw.refL
 g).inv
 x_8 →
∀
(d :
 Nat →
 Go.Value),
(Decidable.decide
((↑x_8.i :
 Int) <
(↑g.el :
 Int)) =
 Bool.true →
((0 :
 Int) ≤
(↑x_8.i :
 Int) ∧
(↑x_8.i :
 Int) <
(↑g.el :
 Int)) ∧
((0 :
 Int) ≤
(↑x_8.i :
 Int) ∧
(↑x_8.i :
 Int) <
(↑g.el :
 Int) →
∃
(b
:
 Nat),
∃
(o
:
 Nat),
 g.ep =
 Option.some
{
 block :=
 b,
 off :=
 o } ∧
∃
(x
:
 Int),
∃
(x_9
:
 Int),
∃
(a
:
 Option
 Go.Addr),
∃
(l
:
 Nat),
∃
(c
:
 Nat),
 Vx.Rd
 g.G
 b
(o +
(↑x_8.i :
 Int).toNat *
(3 :
 Nat))
[Go.Value.int
 Go.IntKind.i64
 x,
 Go.Value.int
 Go.IntKind.u64
 x_9,
 Go.Value.slice
 a
 l
 c] ∧
∀
(r :
 Int),
 r =
 Go.IntKind.u64.wrap
 x →
∃
(x
:
 Sw.OutX),
 x.xs.length =
 x_8.xs.length ∧
 x.xs.length +
 x.vs.length =
 x_8.xs.length +
 x_8.vs.length ∧
 x.n =
 r ∧
 x.xs =
 x_8.xs ∧
 x.xs.length =
 x_8.xs.length ∧
 x.vs =
 x_8.vs ∧
 x.vs.length =
 x_8.vs.length ∧
 Vx.Sub
((Sw.conNumR
(18446744073709551616 :
 Nat)).G
 x)
 g.G ∧
(Sw.conNumR
(18446744073709551616 :
 Nat)).pre
 x ∧
∀
(y :
 Sw.OutY),
(Sw.conNumR
(18446744073709551616 :
 Nat)).post
 x
 y →
∃
(x_10
:
 Sw.OutX),
 x_10.xs.length =
 y.xs.length ∧
 x_10.xs.length +
 x_10.vs.length =
 y.xs.length +
 y.vs.length ∧
 x_10.n =
 x_9 ∧
 x_10.xs =
 y.xs ∧
 x_10.xs.length =
 y.xs.length ∧
 x_10.vs =
 y.vs ∧
 x_10.vs.length =
 y.vs.length ∧
 Vx.Sub
((Sw.conNumR
(18446744073709551616 :
 Nat)).G
 x_10)
 x.G ∧
(Sw.conNumR
(18446744073709551616 :
 Nat)).pre
 x_10 ∧
∀
(y :
 Sw.OutY),
(Sw.conNumR
(18446744073709551616 :
 Nat)).post
 x_10
 y →
∃
(x
:
 Sw.TextX),
 x.xs.length =
 y.xs.length ∧
 x.xs.length +
 x.vs.length =
 y.xs.length +
 y.vs.length ∧
 x.p =
 a ∧
 x.l =
 l ∧
 x.c =
 c ∧
 x.xs =
 y.xs ∧
 x.xs.length =
 y.xs.length ∧
 x.vs =
 y.vs ∧
 x.vs.length =
 y.vs.length ∧
 Vx.Sub
(Sw.conTextG.G
 x)
 x_10.G ∧
 Sw.conTextG.pre
 x ∧
∀
(y :
 Sw.OutY),
 Sw.conTextG.post
 x
 y →
∀
(r :
 Int),
 r =
 Go.IntKind.i64.wrap
((↑x_8.i :
 Int) +
(1 :
 Int)) →
∃
(x'
:
 Sw.LoopX),
(Sw.refL
 g).inv
 x' ∧
(Sw.refL
 g).mea
 x' <
(Sw.refL
 g).mea
 x_8 ∧
 x'.xs.length =
 y.xs.length ∧
 x'.xs.length +
 x'.vs.length =
 y.xs.length +
 y.vs.length ∧
(↑x'.i :
 Int) =
 r ∧
 g.ram =
 g.ram ∧
 g.sec =
 g.sec ∧
 g.locked =
 g.locked ∧
 g.dp =
 g.dp ∧
 g.dl =
 g.dl ∧
 g.dc =
 g.dc ∧
 g.ip =
 g.ip ∧
 g.il =
 g.il ∧
 g.ic =
 g.ic ∧
 g.name =
 g.name ∧
 g.ep =
 g.ep ∧
 g.el =
 g.el ∧
 g.ec =
 g.ec ∧
 x'.xs =
 y.xs ∧
 x'.xs.length =
 y.xs.length ∧
 x'.vs =
 y.vs ∧
 x'.vs.length =
 y.vs.length ∧
 Vx.Sub
((Sw.refL
 g).G
 x')
 x.G ∧
 True)) ∧
(Decidable.decide
((↑x_8.i :
 Int) <
(↑g.el :
 Int)) =
 Bool.false →
∃
(x_9
:
 Sw.ListX),
 x_9.xs.length =
 x_8.xs.length ∧
 x_9.xs.length +
 x_9.vs.length =
 x_8.xs.length +
 x_8.vs.length ∧
 x_9.xs =
 x_8.xs ∧
 x_9.xs.length =
 x_8.xs.length ∧
 x_9.vs =
 x_8.vs ∧
 x_9.vs.length =
 x_8.vs.length ∧
 Vx.Sub
(Sw.conCheck.G
 x_9)
 g.G ∧
 Sw.conCheck.pre
 x_9 ∧
∀
(y :
 Int),
 Sw.conCheck.post
 x_9
 y →
∀
(r :
 Int),
 r =
 y.tmod
(256 :
 Int) →
∀
(r_1 :
 Int),
 r_1 =
 Go.IntKind.u8.wrap
 r →
∀
(c :
 Nat)
(vs :
 List
 Go.Value),
(1 :
 Nat) ≤
 c →
 vs.length =
(c -
(1 :
 Nat)) *
(1 :
 Nat) →
(∀
(v :
 Go.Value),
 v ∈
 vs →
 v.oneCell' =
 Bool.true) →
∀
(r :
 Int),
 r =
 Go.IntKind.u64.wrap
(y.tdiv
(256 :
 Int)) →
∀
(r_2 :
 Int),
 r_2 =
 r.tmod
(256 :
 Int) →
∀
(r_3 :
 Int),
 r_3 =
 Go.IntKind.u8.wrap
 r_2 →
(c -
(1 :
 Nat)) *
(1 :
 Nat) =
 c -
(1 :
 Nat) ∧
((c -
(1 :
 Nat)) *
(1 :
 Nat) =
 c -
(1 :
 Nat) →
(1 :
 Nat) ≤
 c ∧
((1 :
 Nat) ≤
 c →
∀
(c :
 Nat)
(vs :
 List
 Go.Value),
(2 :
 Nat) ≤
 c →
 vs.length =
(c -
(2 :
 Nat)) *
(1 :
 Nat) →
(∀
(v :
 Go.Value),
 v ∈
 vs →
 v.oneCell' =
 Bool.true) →
∀
(r_4 :
 Int),
 r_4 =
 Go.IntKind.u64.wrap
(r.tdiv
(256 :
 Int)) →
∀
(r :
 Int),
 r =
 r_4.tmod
(256 :
 Int) →
∀
(r_5 :
 Int),
 r_5 =
 Go.IntKind.u8.wrap
 r →
(c -
(2 :
 Nat)) *
(1 :
 Nat) =
 c -
(2 :
 Nat) ∧
((c -
(2 :
 Nat)) *
(1 :
 Nat) =
 c -
(2 :
 Nat) →
(2 :
 Nat) ≤
 c ∧
((2 :
 Nat) ≤
 c →
∀
(c :
 Nat)
(vs :
 List
 Go.Value),
(3 :
 Nat) ≤
 c →
 vs.length =
(c -
(3 :
 Nat)) *
(1 :
 Nat) →
(∀
(v :
 Go.Value),
 v ∈
 vs →
 v.oneCell' =
 Bool.true) →
∀
(r :
 Int),
 r =
 Go.IntKind.u64.wrap
(r_4.tdiv
(256 :
 Int)) →
∀
(r_6 :
 Int),
 r_6 =
 r.tmod
(256 :
 Int) →
∀
(r_7 :
 Int),
 r_7 =
 Go.IntKind.u8.wrap
 r_6 →
(c -
(3 :
 Nat)) *
(1 :
 Nat) =
 c -
(3 :
 Nat) ∧
((c -
(3 :
 Nat)) *
(1 :
 Nat) =
 c -
(3 :
 Nat) →
(3 :
 Nat) ≤
 c ∧
((3 :
 Nat) ≤
 c →
∀
(c :
 Nat)
(vs :
 List
 Go.Value),
(4 :
 Nat) ≤
 c →
 vs.length =
(c -
(4 :
 Nat)) *
(1 :
 Nat) →
(∀
(v :
 Go.Value),
 v ∈
 vs →
 v.oneCell' =
 Bool.true) →
∀
(r_8 :
 Int),
 r_8 =
 Go.IntKind.u64.wrap
(r.tdiv
(256 :
 Int)) →
 x_8.xs.length +
(4 :
 Nat) ≤
(140737488355328 :
 Nat) ∧
(x_8.xs.length +
(4 :
 Nat) ≤
(140737488355328 :
 Nat) →
 x_8.xs.length +
(4 :
 Nat) ≤
(9223372036854775807 :
 Nat) ∧
(x_8.xs.length +
(4 :
 Nat) ≤
(9223372036854775807 :
 Nat) →
 x_9.xs.length =
 x_8.xs.length ∧
(x_9.xs.length =
 x_8.xs.length →
 x_9.vs.length =
 x_8.xs.length +
 x_8.vs.length -
 x_8.xs.length ∧
(x_9.vs.length =
 x_8.xs.length +
 x_8.vs.length -
 x_8.xs.length →
 x_8.xs.length ≤
 x_8.xs.length +
 x_8.vs.length ∧
(x_8.xs.length ≤
 x_8.xs.length +
 x_8.vs.length →
∀
(c :
 Nat)
(vs :
 List
 Go.Value),
 x_8.xs.length +
(4 :
 Nat) ≤
 c →
 vs.length =
(c -
(x_8.xs.length +
(4 :
 Nat))) *
(1 :
 Nat) →
(∀
(v :
 Go.Value),
 v ∈
 vs →
 v.oneCell' =
 Bool.true) →
∃
(y
:
 Sw.OutY),
 Sw.conRef.post
 x
 y ∧
 y.xs.length =
 x_8.xs.length +
(4 :
 Nat) ∧
 y.xs.length +
 y.vs.length =
 c ∧
 y.xs =
 x_9.xs ++
([r_1] ++
([r_3] ++
([r_5] ++
[r_7]))) ∧
 y.xs.length =
 x_9.xs.length +
(4 :
 Nat) ∧
 y.vs =
 vs ∧
 y.vs.length =
(c -
(x_8.xs.length +
(4 :
 Nat))) *
(1 :
 Nat) ∧
 Vx.Sub
(Sw.conRef.G'
 x
 y)
 x_9.G ∧
 True))))))))))))) ∧
(x.locked =
 Bool.false →
∃ (x_3 :
 Sw.OutX),
 x_3.xs.length =
 y.xs.length ∧
 x_3.xs.length +
 x_3.vs.length =
 y.xs.length +
 y.vs.length ∧
 x_3.n =
(0 :
 Int) ∧
 x_3.xs =
 y.xs ∧
 x_3.xs.length =
 y.xs.length ∧
 x_3.vs =
 y.vs ∧
 x_3.vs.length =
 y.vs.length ∧
 Vx.Sub
((Sw.conNumR
(18446744073709551616 :
 Nat)).G
 x_3)
 x_2.G ∧
(Sw.conNumR
(18446744073709551616 :
 Nat)).pre
 x_3 ∧
∀
(y :
 Sw.OutY),
(Sw.conNumR
(18446744073709551616 :
 Nat)).post
 x_3
 y →
∃
(x_4
:
 Sw.TextX),
 x_4.xs.length =
 y.xs.length ∧
 x_4.xs.length +
 x_4.vs.length =
 y.xs.length +
 y.vs.length ∧
 x_4.p =
 x.dp ∧
 x_4.l =
 x.dl ∧
 x_4.c =
 x.dc ∧
 x_4.xs =
 y.xs ∧
 x_4.xs.length =
 y.xs.length ∧
 x_4.vs =
 y.vs ∧
 x_4.vs.length =
 y.vs.length ∧
 Vx.Sub
(Sw.conTextG.G
 x_4)
 x_3.G ∧
 Sw.conTextG.pre
 x_4 ∧
∀
(y :
 Sw.OutY),
 Sw.conTextG.post
 x_4
 y →
∃
(x_5
:
 Sw.TextX),
 x_5.xs.length =
 y.xs.length ∧
 x_5.xs.length +
 x_5.vs.length =
 y.xs.length +
 y.vs.length ∧
 x_5.p =
 x.ip ∧
 x_5.l =
 x.il ∧
 x_5.c =
 x.ic ∧
 x_5.xs =
 y.xs ∧
 x_5.xs.length =
 y.xs.length ∧
 x_5.vs =
 y.vs ∧
 x_5.vs.length =
 y.vs.length ∧
 Vx.Sub
(Sw.conTextG.G
 x_5)
 x_4.G ∧
 Sw.conTextG.pre
 x_5 ∧
∀
(y :
 Sw.OutY),
 Sw.conTextG.post
 x_5
 y →
∀
(c :
 Nat)
(vs :
 List
 Go.Value),
 x.name.size ≤
 c →
 vs.length =
 c -
 x.name.size →
(∀
(v :
 Go.Value),
 v ∈
 vs →
 v.oneCell' =
 Bool.true) →
∃
(x_6
:
 Sw.TextY),
 x_6.xs.length =
 y.xs.length ∧
 x_6.xs.length +
 x_6.vs.length =
 y.xs.length +
 y.vs.length ∧
 x_6.d.length =
 x.name.size ∧
 x_6.d.length +
 x_6.ws.length =
 c ∧
 x_6.xs =
 y.xs ∧
 x_6.xs.length =
 y.xs.length ∧
 x_6.vs =
 y.vs ∧
 x_6.vs.length =
 y.vs.length ∧
 x_6.d =
 Vx.bytesOf
 x.name ∧
 x_6.d.length =
 x.name.size ∧
 x_6.ws =
 vs ∧
 x_6.ws.length =
 c -
 x.name.size ∧
 Vx.Sub
(Sw.conTextS.G
 x_6)
 x_5.G ∧
 Sw.conTextS.pre
 x_6 ∧
∀
(y :
 Sw.OutY),
 Sw.conTextS.post
 x_6
 y →
∀
(r :
 Int),
 r =
 Go.IntKind.u64.wrap
(↑x.el :
 Int) →
∃
(x_7
:
 Sw.OutX),
 x_7.xs.length =
 y.xs.length ∧
 x_7.xs.length +
 x_7.vs.length =
 y.xs.length +
 y.vs.length ∧
 x_7.n =
 r ∧
 x_7.xs =
 y.xs ∧
 x_7.xs.length =
 y.xs.length ∧
 x_7.vs =
 y.vs ∧
 x_7.vs.length =
 y.vs.length ∧
 Vx.Sub
((Sw.conNumR
(18446744073709551616 :
 Nat)).G
 x_7)
 x_6.G ∧
(Sw.conNumR
(18446744073709551616 :
 Nat)).pre
 x_7 ∧
∀
(y :
 Sw.OutY),
(Sw.conNumR
(18446744073709551616 :
 Nat)).post
 x_7
 y →
∃
(g
:
 Sw.RecX),
∃
(x0
:
 Sw.LoopX),
 x0.xs.length =
 y.xs.length ∧
 x0.xs.length +
 x0.vs.length =
 y.xs.length +
 y.vs.length ∧
(↑x0.i :
 Int) =
(0 :
 Int) ∧
 g.ram =
 x.ram ∧
 g.sec =
 x.sec ∧
 g.locked =
 x.locked ∧
 g.dp =
 x.dp ∧
 g.dl =
 x.dl ∧
 g.dc =
 x.dc ∧
 g.ip =
 x.ip ∧
 g.il =
 x.il ∧
 g.ic =
 x.ic ∧
 g.name =
 x.name ∧
 g.ep =
 x.ep ∧
 g.el =
 x.el ∧
 g.ec =
 x.ec ∧
 x0.xs =
 y.xs ∧
 x0.xs.length =
 y.xs.length ∧
 x0.vs =
 y.vs ∧
 x0.vs.length =
 y.vs.length ∧
 Vx.Sub
((Sw.refL
 g).G
 x0)
 x_7.G ∧
(Sw.refL
 g).inv
 x0 ∧
∀
(x_8 :
 Sw.LoopX),
(Sw.refL
 g).inv
 x_8 →
∀
(d :
 Nat →
 Go.Value),
(Decidable.decide
((↑x_8.i :
 Int) <
(↑g.el :
 Int)) =
 Bool.true →
((0 :
 Int) ≤
(↑x_8.i :
 Int) ∧
(↑x_8.i :
 Int) <
(↑g.el :
 Int)) ∧
((0 :
 Int) ≤
(↑x_8.i :
 Int) ∧
(↑x_8.i :
 Int) <
(↑g.el :
 Int) →
∃
(b
:
 Nat),
∃
(o
:
 Nat),
 g.ep =
 Option.some
{
 block :=
 b,
 off :=
 o } ∧
∃
(x
:
 Int),
∃
(x_9
:
 Int),
∃
(a
:
 Option
 Go.Addr),
∃
(l
:
 Nat),
∃
(c
:
 Nat),
 Vx.Rd
 g.G
 b
(o +
(↑x_8.i :
 Int).toNat *
(3 :
 Nat))
[Go.Value.int
 Go.IntKind.i64
 x,
 Go.Value.int
 Go.IntKind.u64
 x_9,
 Go.Value.slice
 a
 l
 c] ∧
∀
(r :
 Int),
 r =
 Go.IntKind.u64.wrap
 x →
∃
(x
:
 Sw.OutX),
 x.xs.length =
 x_8.xs.length ∧
 x.xs.length +
 x.vs.length =
 x_8.xs.length +
 x_8.vs.length ∧
 x.n =
 r ∧
 x.xs =
 x_8.xs ∧
 x.xs.length =
 x_8.xs.length ∧
 x.vs =
 x_8.vs ∧
 x.vs.length =
 x_8.vs.length ∧
 Vx.Sub
((Sw.conNumR
(18446744073709551616 :
 Nat)).G
 x)
 g.G ∧
(Sw.conNumR
(18446744073709551616 :
 Nat)).pre
 x ∧
∀
(y :
 Sw.OutY),
(Sw.conNumR
(18446744073709551616 :
 Nat)).post
 x
 y →
∃
(x_10
:
 Sw.OutX),
 x_10.xs.length =
 y.xs.length ∧
 x_10.xs.length +
 x_10.vs.length =
 y.xs.length +
 y.vs.length ∧
 x_10.n =
 x_9 ∧
 x_10.xs =
 y.xs ∧
 x_10.xs.length =
 y.xs.length ∧
 x_10.vs =
 y.vs ∧
 x_10.vs.length =
 y.vs.length ∧
 Vx.Sub
((Sw.conNumR
(18446744073709551616 :
 Nat)).G
 x_10)
 x.G ∧
(Sw.conNumR
(18446744073709551616 :
 Nat)).pre
 x_10 ∧
∀
(y :
 Sw.OutY),
(Sw.conNumR
(18446744073709551616 :
 Nat)).post
 x_10
 y →
∃
(x
:
 Sw.TextX),
 x.xs.length =
 y.xs.length ∧
 x.xs.length +
 x.vs.length =
 y.xs.length +
 y.vs.length ∧
 x.p =
 a ∧
 x.l =
 l ∧
 x.c =
 c ∧
 x.xs =
 y.xs ∧
 x.xs.length =
 y.xs.length ∧
 x.vs =
 y.vs ∧
 x.vs.length =
 y.vs.length ∧
 Vx.Sub
(Sw.conTextG.G
 x)
 x_10.G ∧
 Sw.conTextG.pre
 x ∧
∀
(y :
 Sw.OutY),
 Sw.conTextG.post
 x
 y →
∀
(r :
 Int),
 r =
 Go.IntKind.i64.wrap
((↑x_8.i :
 Int) +
(1 :
 Int)) →
∃
(x'
:
 Sw.LoopX),
(Sw.refL
 g).inv
 x' ∧
(Sw.refL
 g).mea
 x' <
(Sw.refL
 g).mea
 x_8 ∧
 x'.xs.length =
 y.xs.length ∧
 x'.xs.length +
 x'.vs.length =
 y.xs.length +
 y.vs.length ∧
(↑x'.i :
 Int) =
 r ∧
 g.ram =
 g.ram ∧
 g.sec =
 g.sec ∧
 g.locked =
 g.locked ∧
 g.dp =
 g.dp ∧
 g.dl =
 g.dl ∧
 g.dc =
 g.dc ∧
 g.ip =
 g.ip ∧
 g.il =
 g.il ∧
 g.ic =
 g.ic ∧
 g.name =
 g.name ∧
 g.ep =
 g.ep ∧
 g.el =
 g.el ∧
 g.ec =
 g.ec ∧
 x'.xs =
 y.xs ∧
 x'.xs.length =
 y.xs.length ∧
 x'.vs =
 y.vs ∧
 x'.vs.length =
 y.vs.length ∧
 Vx.Sub
((Sw.refL
 g).G
 x')
 x.G ∧
 True)) ∧
(Decidable.decide
((↑x_8.i :
 Int) <
(↑g.el :
 Int)) =
 Bool.false →
∃
(x_9
:
 Sw.ListX),
 x_9.xs.length =
 x_8.xs.length ∧
 x_9.xs.length +
 x_9.vs.length =
 x_8.xs.length +
 x_8.vs.length ∧
 x_9.xs =
 x_8.xs ∧
 x_9.xs.length =
 x_8.xs.length ∧
 x_9.vs =
 x_8.vs ∧
 x_9.vs.length =
 x_8.vs.length ∧
 Vx.Sub
(Sw.conCheck.G
 x_9)
 g.G ∧
 Sw.conCheck.pre
 x_9 ∧
∀
(y :
 Int),
 Sw.conCheck.post
 x_9
 y →
∀
(r :
 Int),
 r =
 y.tmod
(256 :
 Int) →
∀
(r_1 :
 Int),
 r_1 =
 Go.IntKind.u8.wrap
 r →
∀
(c :
 Nat)
(vs :
 List
 Go.Value),
(1 :
 Nat) ≤
 c →
 vs.length =
(c -
(1 :
 Nat)) *
(1 :
 Nat) →
(∀
(v :
 Go.Value),
 v ∈
 vs →
 v.oneCell' =
 Bool.true) →
∀
(r :
 Int),
 r =
 Go.IntKind.u64.wrap
(y.tdiv
(256 :
 Int)) →
∀
(r_2 :
 Int),
 r_2 =
 r.tmod
(256 :
 Int) →
∀
(r_3 :
 Int),
 r_3 =
 Go.IntKind.u8.wrap
 r_2 →
(c -
(1 :
 Nat)) *
(1 :
 Nat) =
 c -
(1 :
 Nat) ∧
((c -
(1 :
 Nat)) *
(1 :
 Nat) =
 c -
(1 :
 Nat) →
(1 :
 Nat) ≤
 c ∧
((1 :
 Nat) ≤
 c →
∀
(c :
 Nat)
(vs :
 List
 Go.Value),
(2 :
 Nat) ≤
 c →
 vs.length =
(c -
(2 :
 Nat)) *
(1 :
 Nat) →
(∀
(v :
 Go.Value),
 v ∈
 vs →
 v.oneCell' =
 Bool.true) →
∀
(r_4 :
 Int),
 r_4 =
 Go.IntKind.u64.wrap
(r.tdiv
(256 :
 Int)) →
∀
(r :
 Int),
 r =
 r_4.tmod
(256 :
 Int) →
∀
(r_5 :
 Int),
 r_5 =
 Go.IntKind.u8.wrap
 r →
(c -
(2 :
 Nat)) *
(1 :
 Nat) =
 c -
(2 :
 Nat) ∧
((c -
(2 :
 Nat)) *
(1 :
 Nat) =
 c -
(2 :
 Nat) →
(2 :
 Nat) ≤
 c ∧
((2 :
 Nat) ≤
 c →
∀
(c :
 Nat)
(vs :
 List
 Go.Value),
(3 :
 Nat) ≤
 c →
 vs.length =
(c -
(3 :
 Nat)) *
(1 :
 Nat) →
(∀
(v :
 Go.Value),
 v ∈
 vs →
 v.oneCell' =
 Bool.true) →
∀
(r :
 Int),
 r =
 Go.IntKind.u64.wrap
(r_4.tdiv
(256 :
 Int)) →
∀
(r_6 :
 Int),
 r_6 =
 r.tmod
(256 :
 Int) →
∀
(r_7 :
 Int),
 r_7 =
 Go.IntKind.u8.wrap
 r_6 →
(c -
(3 :
 Nat)) *
(1 :
 Nat) =
 c -
(3 :
 Nat) ∧
((c -
(3 :
 Nat)) *
(1 :
 Nat) =
 c -
(3 :
 Nat) →
(3 :
 Nat) ≤
 c ∧
((3 :
 Nat) ≤
 c →
∀
(c :
 Nat)
(vs :
 List
 Go.Value),
(4 :
 Nat) ≤
 c →
 vs.length =
(c -
(4 :
 Nat)) *
(1 :
 Nat) →
(∀
(v :
 Go.Value),
 v ∈
 vs →
 v.oneCell' =
 Bool.true) →
∀
(r_8 :
 Int),
 r_8 =
 Go.IntKind.u64.wrap
(r.tdiv
(256 :
 Int)) →
 x_8.xs.length +
(4 :
 Nat) ≤
(140737488355328 :
 Nat) ∧
(x_8.xs.length +
(4 :
 Nat) ≤
(140737488355328 :
 Nat) →
 x_8.xs.length +
(4 :
 Nat) ≤
(9223372036854775807 :
 Nat) ∧
(x_8.xs.length +
(4 :
 Nat) ≤
(9223372036854775807 :
 Nat) →
 x_9.xs.length =
 x_8.xs.length ∧
(x_9.xs.length =
 x_8.xs.length →
 x_9.vs.length =
 x_8.xs.length +
 x_8.vs.length -
 x_8.xs.length ∧
(x_9.vs.length =
 x_8.xs.length +
 x_8.vs.length -
 x_8.xs.length →
 x_8.xs.length ≤
 x_8.xs.length +
 x_8.vs.length ∧
(x_8.xs.length ≤
 x_8.xs.length +
 x_8.vs.length →
∀
(c :
 Nat)
(vs :
 List
 Go.Value),
 x_8.xs.length +
(4 :
 Nat) ≤
 c →
 vs.length =
(c -
(x_8.xs.length +
(4 :
 Nat))) *
(1 :
 Nat) →
(∀
(v :
 Go.Value),
 v ∈
 vs →
 v.oneCell' =
 Bool.true) →
∃
(y
:
 Sw.OutY),
 Sw.conRef.post
 x
 y ∧
 y.xs.length =
 x_8.xs.length +
(4 :
 Nat) ∧
 y.xs.length +
 y.vs.length =
 c ∧
 y.xs =
 x_9.xs ++
([r_1] ++
([r_3] ++
([r_5] ++
[r_7]))) ∧
 y.xs.length =
 x_9.xs.length +
(4 :
 Nat) ∧
 y.vs =
 vs ∧
 y.vs.length =
(c -
(x_8.xs.length +
(4 :
 Nat))) *
(1 :
 Nat) ∧
 Vx.Sub
(Sw.conRef.G'
 x
 y)
 x_9.G ∧
 True)))))))))))))))))))))))) := by kernel_rfl
end Sw
