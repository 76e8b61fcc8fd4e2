/- What this text proves, part by part: What SwParse's conditions come to, word for word: made by a program. A record's bytes, read back piece by piece: the plain law. save.Parse, the sum and the comparison of bytes that stay do what is said. vireoref27.Same and Alike, the laws SaveBack and SaveParses: what they do. What SwBack's conditions come to, word for word: made by a program. vireoref27.Same and Alike, the laws SaveBack and SaveParses do what is said. No condition is added. -/
import Derived.Test.YtafngdeeachggaaGreatParses01
import Derived.Test.YtafngdeeachggaaGreatParses02
import Derived.Test.YtafngdeeachggaaGreatParses03
import Derived.Test.YtafngdeeachggaaGreatParses04
import Derived.Test.YtafngdeeachggaaGreatParses05
import Derived.Test.YtafngdeeachggaaGreatParses06
import Derived.Test.YtafngdeeachggaaGreatParses07
import Derived.Test.YtafngdeeachggaaGreatParses08
set_option linter.unusedVariables false
set_option linter.unusedSimpArgs false
section
/- What SwParse's conditions come to, word for word: made by a program. -/
set_option maxRecDepth 100000
set_option linter.unusedVariables false
namespace Sw
open Go Go.Proofs Vx
theorem sumG_vc : (conSumG.Vc body44G) = (
∀ (x : Sw.BsX), Sw.conSumG.pre x →
 ∃ (g : Sw.BsX), ∃ (x0 : Sw.IW), g.p = x.p ∧
 g.l = x.l ∧
 g.c = x.c ∧
 (↑g.l : Int) = (↑x.l : Int) ∧
 (↑x0.i : Int) = (0 : Int) ∧
 x0.w = (2166136261 : Int) ∧
 Vx.Sub ((Sw.sumGL g).G x0) x.G ∧
 (Sw.sumGL g).inv x0 ∧
 ∀ (x_1 : Sw.IW), (Sw.sumGL g).inv x_1 →
 ∀ (d : Nat → Go.Value), (Decidable.decide ((↑x_1.i : Int) < (↑g.l : Int)) = Bool.true →
 ((0 : Int) ≤ (↑x_1.i : Int) ∧ (↑x_1.i : Int) < (↑g.l : Int)) ∧
 ((0 : Int) ≤ (↑x_1.i : Int) ∧ (↑x_1.i : Int) < (↑g.l : Int) →
 ∃ (b : Nat), ∃ (o : Nat), g.p = Option.some { block := b, off := o } ∧
 ∃ (x : Int), Vx.Rd g.G b (o + (↑x_1.i : Int).toNat * (1 : Nat)) [Go.Value.int Go.IntKind.u8 x] ∧
 ∀ (r : Int), r = Go.IntKind.u64.wrap x →
 ∀ (r_1 : Int), r_1 = Vx.bits Go.BinOp.xor Go.IntKind.u64 x_1.w r →
 ∀ (r : Int), r = Go.IntKind.u64.wrap (r_1 * (16777619 : Int)) →
 ∀ (r_2 : Int), r_2 = Vx.bits Go.BinOp.and Go.IntKind.u64 r (4294967295 : Int) →
 ∀ (r : Int), r = Go.IntKind.i64.wrap ((↑x_1.i : Int) + (1 : Int)) →
 ∃ (x' : Sw.IW), (Sw.sumGL g).inv x' ∧
 (Sw.sumGL g).mea x' < (Sw.sumGL g).mea x_1 ∧
 g.p = g.p ∧
 g.l = g.l ∧
 g.c = g.c ∧
 (↑g.l : Int) = (↑g.l : Int) ∧
 (↑x'.i : Int) = r ∧ x'.w = r_2 ∧ Vx.Sub ((Sw.sumGL g).G x') g.G ∧ True)) ∧
 (Decidable.decide ((↑x_1.i : Int) < (↑g.l : Int)) = Bool.false →
 ∃ (y : Int), Sw.conSumG.post x y ∧ y = x_1.w ∧ Vx.Sub (Sw.conSumG.G' x y) g.G ∧ True)) := by kernel_rfl
theorem cmpG_vc : (conCmpG.Vc body13G) = (
∀ (x : Sw.TwoBs), Sw.conCmpG.pre x →
 (((↑x.l : Int) != (↑x.l2 : Int)) = Bool.true → ∃ (y : Bool), Sw.conCmpG.post x y ∧ y = Bool.false ∧ Vx.Sub (Sw.conCmpG.G' x y) x.G ∧ True) ∧
 (((↑x.l : Int) != (↑x.l2 : Int)) = Bool.false →
 ∃ (g : Sw.TwoBs), ∃ (x0 : Nat), g.p = x.p ∧
 g.l = x.l ∧
 g.c = x.c ∧
 g.p2 = x.p2 ∧
 g.l2 = x.l2 ∧
 g.c2 = x.c2 ∧
 (↑x0 : Int) = (0 : Int) ∧
 Vx.Sub ((Sw.cmpGL g).G x0) x.G ∧
 (Sw.cmpGL g).inv x0 ∧
 ∀ (x_1 : Nat), (Sw.cmpGL g).inv x_1 →
 ∀ (d : Nat → Go.Value), (Decidable.decide ((↑x_1 : Int) < (↑g.l : Int)) = Bool.true →
 ((0 : Int) ≤ (↑x_1 : Int) ∧ (↑x_1 : Int) < (↑g.l : Int)) ∧
 ((0 : Int) ≤ (↑x_1 : Int) ∧ (↑x_1 : Int) < (↑g.l : Int) →
 ∃ (b : Nat), ∃ (o : Nat), g.p = Option.some { block := b, off := o } ∧
 ∃ (x_2 : Int), Vx.Rd g.G b (o + (↑x_1 : Int).toNat * (1 : Nat)) [Go.Value.int Go.IntKind.u8 x_2] ∧
 ((0 : Int) ≤ (↑x_1 : Int) ∧ (↑x_1 : Int) < (↑g.l2 : Int)) ∧
 ((0 : Int) ≤ (↑x_1 : Int) ∧ (↑x_1 : Int) < (↑g.l2 : Int) →
 ∃ (b : Nat), ∃ (o : Nat), g.p2 = Option.some { block := b, off := o } ∧
 ∃ (x_3 : Int), Vx.Rd g.G b (o + (↑x_1 : Int).toNat * (1 : Nat)) [Go.Value.int Go.IntKind.u8 x_3] ∧
 ((x_2 != x_3) = Bool.true →
 ∃ (y : Bool), Sw.conCmpG.post x y ∧ y = Bool.false ∧ Vx.Sub (Sw.conCmpG.G' x y) g.G ∧ True) ∧
 ((x_2 != x_3) = Bool.false →
 ∀ (r : Int), r = Go.IntKind.i64.wrap ((↑x_1 : Int) + (1 : Int)) →
 ∃ (x' : Nat), (Sw.cmpGL g).inv x' ∧
 (Sw.cmpGL g).mea x' < (Sw.cmpGL g).mea x_1 ∧
 g.p = g.p ∧
 g.l = g.l ∧
 g.c = g.c ∧
 g.p2 = g.p2 ∧
 g.l2 = g.l2 ∧
 g.c2 = g.c2 ∧
 (↑x' : Int) = r ∧ Vx.Sub ((Sw.cmpGL g).G x') g.G ∧ True)))) ∧
 (Decidable.decide ((↑x_1 : Int) < (↑g.l : Int)) = Bool.false →
 ∃ (y : Bool), Sw.conCmpG.post x y ∧ y = Bool.true ∧ Vx.Sub (Sw.conCmpG.G' x y) g.G ∧ True))) := by kernel_rfl
theorem parse_vc : (conParse.VcAlt frzPar body17) = (
∀ (x : Sw.BsX), Sw.conParse.pre x →
 (Decidable.decide ((↑x.l : Int) < (4 : Int)) = Bool.true →
 (∃ (y : Sw.ParY), Sw.conParse.post x y ∧
 y.r.ram = (0 : Int) ∧
 y.r.sec = (0 : Int) ∧
 y.r.locked = Bool.false ∧
 y.r.dp = Option.none ∧
 y.r.dl = (0 : Nat) ∧
 y.r.dc = (0 : Nat) ∧
 y.r.ip = Option.none ∧
 y.r.il = (0 : Nat) ∧
 y.r.ic = (0 : Nat) ∧
 y.r.name = { data := #[] } ∧
 y.r.ep = Option.none ∧
 y.r.el = (0 : Nat) ∧ y.r.ec = (0 : Nat) ∧ y.err = (250 : Int) ∧ Vx.Sub (Sw.conParse.G' x y) x.G ∧ True) ∨
 ∃ (y : Sw.frzPar.Y), Sw.frzPar.post x y ∧
 y.r.ram = (0 : Int) ∧
 y.r.sec = (0 : Int) ∧
 y.r.locked = Bool.false ∧
 y.r.dp = Option.none ∧
 y.r.dl = (0 : Nat) ∧
 y.r.dc = (0 : Nat) ∧ y.r.ip = Option.none ∧ y.r.il = (0 : Nat) ∧ y.r.ic = (0 : Nat) ∧ y.r.name = { data := #[] } ∧ False) ∧
 (Decidable.decide ((↑x.l : Int) < (4 : Int)) = Bool.false →
 ∀ (r : Int), r = Go.IntKind.i64.wrap ((↑x.l : Int) - (4 : Int)) →
 x.l ≤ x.c ∧
 (x.l ≤ x.c →
 ((0 : Int) ≤ r ∧ r ≤ (↑x.l : Int)) ∧
 ((0 : Int) ≤ r ∧ r ≤ (↑x.l : Int) →
 ∀ (a' : Option Go.Addr), (a' = if x.c = r.toNat then x.p else Option.map (fun (x : Go.Addr) => x.add (r.toNat * (1 : Nat))) x.p) →
 ∀ (r_1 : Int), r_1 = Go.IntKind.i64.wrap ((↑x.l : Int) - (4 : Int)) →
 x.l ≤ x.c ∧
 (x.l ≤ x.c →
 ((0 : Int) ≤ r_1 ∧ r_1 ≤ (↑x.c : Int)) ∧
 ((0 : Int) ≤ r_1 ∧ r_1 ≤ (↑x.c : Int) →
 ∀ (a'_1 : Option Go.Addr), (a'_1 = if x.c = (0 : Nat) then x.p else Option.map (fun (x : Go.Addr) => x.add (0 : Nat)) x.p) →
 ∃ (x_1 : Sw.BsX), x_1.p = a' ∧
 x_1.l = x.l - r.toNat ∧
 x_1.c = x.c - r.toNat ∧
 Vx.Sub (Sw.conOf.G x_1) x.G ∧
 Sw.conOf.pre x_1 ∧
 ∀ (y : Int), Sw.conOf.post x_1 y →
 ∃ (x_2 : Sw.BsX), x_2.p = a'_1 ∧
 x_2.l = r_1.toNat - (0 : Nat) ∧
 x_2.c = x.c - (0 : Nat) ∧
 Vx.Sub (Sw.conSumG.G x_2) x_1.G ∧
 Sw.conSumG.pre x_2 ∧
 ∀ (y_1 : Int), Sw.conSumG.post x_2 y_1 →
 ((y != y_1) = Bool.true →
 (∃ (y : Sw.ParY), Sw.conParse.post x y ∧
 y.r.ram = (0 : Int) ∧
 y.r.sec = (0 : Int) ∧
 y.r.locked = Bool.false ∧
 y.r.dp = Option.none ∧
 y.r.dl = (0 : Nat) ∧
 y.r.dc = (0 : Nat) ∧
 y.r.ip = Option.none ∧
 y.r.il = (0 : Nat) ∧
 y.r.ic = (0 : Nat) ∧
 y.r.name = { data := #[] } ∧
 y.r.ep = Option.none ∧
 y.r.el = (0 : Nat) ∧
 y.r.ec = (0 : Nat) ∧
 y.err = (250 : Int) ∧
 Vx.Sub (Sw.conParse.G' x y) x_2.G ∧ True) ∨
 ∃ (y : Sw.frzPar.Y), Sw.frzPar.post x y ∧
 y.r.ram = (0 : Int) ∧
 y.r.sec = (0 : Int) ∧
 y.r.locked = Bool.false ∧
 y.r.dp = Option.none ∧
 y.r.dl = (0 : Nat) ∧
 y.r.dc = (0 : Nat) ∧
 y.r.ip = Option.none ∧
 y.r.il = (0 : Nat) ∧
 y.r.ic = (0 : Nat) ∧ y.r.name = { data := #[] } ∧ False) ∧
 ((y != y_1) = Bool.false →
 ∀ (r : Int), r = Go.IntKind.i64.wrap ((↑x.l : Int) - (4 : Int)) →
 x.l ≤ x.c ∧
 (x.l ≤ x.c →
 ((0 : Int) ≤ r ∧ r ≤ (↑x.c : Int)) ∧
 ((0 : Int) ≤ r ∧ r ≤ (↑x.c : Int) →
 ∀ (a' : Option Go.Addr), (a' =
 if x.c = (0 : Nat) then x.p
 else Option.map (fun (x : Go.Addr) => x.add (0 : Nat)) x.p) →
 ∃ (x_3 : Sw.RdrX), x_3.p = a' ∧
 x_3.l = r.toNat - (0 : Nat) ∧
 x_3.c = x.c - (0 : Nat) ∧
 x_3.bad = Bool.false ∧
 Vx.Sub (Sw.conRNum.G x_3) x_2.G ∧
 Sw.conRNum.pre x_3 ∧
 ∀ (y : Sw.NumY), Sw.conRNum.post x_3 y →
 ((y.v != (478443366774 : Int)) = Bool.true →
 (∃ (y : Sw.ParY), Sw.conParse.post x y ∧
 y.r.ram = (0 : Int) ∧
 y.r.sec = (0 : Int) ∧
 y.r.locked = Bool.false ∧
 y.r.dp = Option.none ∧
 y.r.dl = (0 : Nat) ∧
 y.r.dc = (0 : Nat) ∧
 y.r.ip = Option.none ∧
 y.r.il = (0 : Nat) ∧
 y.r.ic = (0 : Nat) ∧
 y.r.name =
 { data := #[] } ∧
 y.r.ep =
 Option.none ∧
 y.r.el =
 (0 : Nat) ∧
 y.r.ec =
 (0 : Nat) ∧
 y.err =
 (250 :
 Int) ∧
 Vx.Sub
 (Sw.conParse.G'
 x y)
 x_3.G ∧
 True) ∨
 ∃ (y : Sw.frzPar.Y), Sw.frzPar.post x y ∧
 y.r.ram = (0 : Int) ∧
 y.r.sec = (0 : Int) ∧
 y.r.locked = Bool.false ∧
 y.r.dp = Option.none ∧
 y.r.dl = (0 : Nat) ∧
 y.r.dc = (0 : Nat) ∧
 y.r.ip = Option.none ∧
 y.r.il = (0 : Nat) ∧
 y.r.ic = (0 : Nat) ∧
 y.r.name =
 { data := #[] } ∧
 False) ∧
 ((y.v != (478443366774 : Int)) = Bool.false →
 ∃ (x_4 : Sw.RdrX), x_4.p = y.p ∧
 x_4.l = y.l ∧
 x_4.c = y.c ∧
 x_4.bad = y.bad ∧
 Vx.Sub (Sw.conRNum.G x_4) x_3.G ∧
 Sw.conRNum.pre x_4 ∧
 ∀ (y : Sw.NumY), Sw.conRNum.post x_4 y →
 ∃ (x_5 : Sw.RdrX), x_5.p = y.p ∧
 x_5.l = y.l ∧
 x_5.c = y.c ∧
 x_5.bad = y.bad ∧
 Vx.Sub
 (Sw.conRNum.G
 x_5)
 x_4.G ∧
 Sw.conRNum.pre
 x_5 ∧
 ∀
 (y_2 :
 Sw.NumY), Sw.conRNum.post
 x_5
 y_2 →
 ∃ (x_6 :
 Sw.RdrX), x_6.p =
 y_2.p ∧
 x_6.l =
 y_2.l ∧
 x_6.c =
 y_2.c ∧
 x_6.bad =
 y_2.bad ∧
 Vx.Sub
 (Sw.conRNum.G
 x_6)
 x_5.G ∧
 Sw.conRNum.pre
 x_6 ∧
 ∀
 (y_3 :
 Sw.NumY), Sw.conRNum.post
 x_6
 y_3 →
 ∃
 (x_7
 :
 Sw.P9X), x_7.lk =
 y_3.v ∧
 x_7.x.p =
 y_3.p ∧
 x_7.x.l =
 y_3.l ∧
 x_7.x.c =
 y_3.c ∧
 x_7.x.bad =
 y_3.bad ∧
 x_7.ram =
 y.v ∧
 x_7.sec =
 y_2.v ∧
 x_7.locked =
 (y_3.v ==
 (1 :
 Int)) ∧
 ByteArray.empty =
 {
 data :=
 #[] } ∧
 Vx.Sub
 (Sw.par9P.G
 x_7)
 x_6.G ∧
 Sw.par9P.pre
 x_7 ∧
 (∀
 (d :
 Nat →
 Go.Value), ∃
 (x
 :
 Sw.RdrX), x.p =
 x_7.x.p ∧
 x.l =
 x_7.x.l ∧
 x.c =
 x_7.x.c ∧
 x.bad =
 x_7.x.bad ∧
 Vx.Sub
 (Sw.conRText.G
 x)
 x_7.x.G ∧
 Sw.conRText.pre
 x ∧
 ∀
 (y :
 Sw.TextRY), Sw.conRText.post
 x
 y →
 ∃
 (x
 :
 Sw.RdrX), x.p =
 y.p ∧
 x.l =
 y.l ∧
 x.c =
 y.c ∧
 x.bad =
 y.bad ∧
 Vx.Sub
 (Sw.conRText.G
 x)
 y.G ∧
 Sw.conRText.pre
 x ∧
 ∀
 (y_4 :
 Sw.TextRY), Sw.conRText.post
 x
 y_4 →
 ∃
 (x
 :
 Sw.RdrX), x.p =
 y_4.p ∧
 x.l =
 y_4.l ∧
 x.c =
 y_4.c ∧
 x.bad =
 y_4.bad ∧
 Vx.Sub
 (Sw.conRText.G
 x)
 y_4.G ∧
 Sw.conRText.pre
 x ∧
 ∀
 (y_5 :
 Sw.TextRY), Sw.conRText.post
 x
 y_5 →
 (∃
 (ys
 :
 List
 Int), ys.length =
 y_5.tl ∧
 Vx.RdS
 y_5.G
 y_5.tp
 y_5.tl
 (List.map
 (Go.Value.int
 Go.IntKind.u8)
 ys) ∧
 ∀
 (r :
 ByteArray), r =
 Vx.strOf
 ys →
 ∃
 (y_6
 :
 Sw.P9Y), Sw.par9P.post
 x_7
 y_6 ∧
 x_7.lk =
 x_7.lk ∧
 y_6.p =
 y_5.p ∧
 y_6.l =
 y_5.l ∧
 y_6.c =
 y_5.c ∧
 y_6.bad =
 y_5.bad ∧
 x_7.ram =
 x_7.ram ∧
 x_7.sec =
 x_7.sec ∧
 x_7.locked =
 x_7.locked ∧
 y_6.dp =
 y.tp ∧
 y_6.dl =
 y.tl ∧
 y_6.dc =
 y.tc ∧
 y_6.ip =
 y_4.tp ∧
 y_6.il =
 y_4.tl ∧
 y_6.ic =
 y_4.tc ∧
 y_6.name =
 r ∧
 Vx.Sub
 (Sw.par9P.G'
 x_7
 y_6)
 y_5.G ∧
 True) ∧
 (∃
 (ys
 :
 List
 Int), ys.length =
 y_5.tl ∧
 Vx.RdS
 y_5.G
 y_5.tp
 y_5.tl
 (List.map
 (Go.Value.int
 Go.IntKind.u8)
 ys) ∧
 ∀
 (r :
 ByteArray), r =
 Vx.strOf
 ys →
 ∃
 (y_6
 :
 Sw.P9Y), Sw.par9P.post
 x_7
 y_6 ∧
 x_7.lk =
 x_7.lk ∧
 y_6.p =
 y_5.p ∧
 y_6.l =
 y_5.l ∧
 y_6.c =
 y_5.c ∧
 y_6.bad =
 y_5.bad ∧
 x_7.ram =
 x_7.ram ∧
 x_7.sec =
 x_7.sec ∧
 x_7.locked =
 x_7.locked ∧
 y_6.dp =
 y.tp ∧
 y_6.dl =
 y.tl ∧
 y_6.dc =
 y.tc ∧
 y_6.ip =
 y_4.tp ∧
 y_6.il =
 y_4.tl ∧
 y_6.ic =
 y_4.tc ∧
 y_6.name =
 r ∧
 Vx.Sub
 (Sw.par9P.G'
 x_7
 y_6)
 y_5.G ∧
 True) ∧
 ∃
 (ys
 :
 List
 Int), ys.length =
 y_5.tl ∧
 Vx.RdS
 y_5.G
 y_5.tp
 y_5.tl
 (List.map
 (Go.Value.int
 Go.IntKind.u8)
 ys) ∧
 ∀
 (r :
 ByteArray), r =
 Vx.strOf
 ys →
 ∃
 (y_6
 :
 Sw.P9Y), Sw.par9P.post
 x_7
 y_6 ∧
 x_7.lk =
 x_7.lk ∧
 y_6.p =
 y_5.p ∧
 y_6.l =
 y_5.l ∧
 y_6.c =
 y_5.c ∧
 y_6.bad =
 y_5.bad ∧
 x_7.ram =
 x_7.ram ∧
 x_7.sec =
 x_7.sec ∧
 x_7.locked =
 x_7.locked ∧
 y_6.dp =
 y.tp ∧
 y_6.dl =
 y.tl ∧
 y_6.dc =
 y.tc ∧
 y_6.ip =
 y_4.tp ∧
 y_6.il =
 y_4.tl ∧
 y_6.ic =
 y_4.tc ∧
 y_6.name =
 r ∧
 Vx.Sub
 (Sw.par9P.G'
 x_7
 y_6)
 y_5.G ∧
 True) ∧
 ∀
 (y :
 Sw.P9Y), Sw.par9P.post
 x_7
 y →
 ∀
 (d :
 Nat →
 Go.Value), ∃
 (x_8
 :
 Sw.RdrX), x_8.p =
 y.p ∧
 x_8.l =
 y.l ∧
 x_8.c =
 y.c ∧
 x_8.bad =
 y.bad ∧
 Vx.Sub
 (Sw.conRNum.G
 x_8)
 y.G ∧
 Sw.conRNum.pre
 x_8 ∧
 ∀
 (y_4 :
 Sw.NumY), Sw.conRNum.post
 x_8
 y_4 →
 (Decidable.decide
 ((0 :
 Int) <
 y_4.v) =
 Bool.true →
 ((!y_4.bad) =
 Bool.true →
 ∃
 (x_9
 :
 Sw.RdrX), x_9.p =
 y_4.p ∧
 x_9.l =
 y_4.l ∧
 x_9.c =
 y_4.c ∧
 x_9.bad =
 y_4.bad ∧
 Vx.Sub
 (Sw.conREv.G
 x_9)
 x_8.G ∧
 Sw.conREv.pre
 x_9 ∧
 ∀
 (y_5 :
 Sw.EvRY), Sw.conREv.post
 x_9
 y_5 →
 ∀
 (c :
 Nat)
 (vs :
 List
 Go.Value), (1 :
 Nat) ≤
 c →
 vs.length =
 (c -
 (1 :
 Nat)) *
 (3 :
 Nat) →
 (∀
 (v :
 Go.Value), v ∈
 vs →
 v.oneCell' =
 Bool.true) →
 ∃
 (g
 :
 Sw.ParG), ∃
 (x0
 :
 Sw.ParI), g.lk =
 x_7.lk ∧
 g.n =
 y_4.v ∧
 x0.i =
 (1 :
 Int) ∧
 x0.p =
 y_5.p ∧
 x0.l =
 y_5.l ∧
 x0.c =
 y_5.c ∧
 x0.bad =
 y_5.bad ∧
 g.r.ram =
 x_7.ram ∧
 g.r.sec =
 x_7.sec ∧
 g.r.locked =
 x_7.locked ∧
 g.r.dp =
 y.dp ∧
 g.r.dl =
 y.dl ∧
 g.r.dc =
 y.dc ∧
 g.r.ip =
 y.ip ∧
 g.r.il =
 y.il ∧
 g.r.ic =
 y.ic ∧
 g.r.name =
 y.name ∧
 x0.es.length =
 (1 :
 Nat) ∧
 x0.ec =
 c ∧
 Sw.evsCells
 x0.es =
 [Go.Value.int
 Go.IntKind.i64
 y_5.e.k] ++
 ([Go.Value.int
 Go.IntKind.u64
 y_5.e.a] ++
 [Go.Value.slice
 y_5.e.p
 y_5.e.l
 y_5.e.c]) ∧
 (3 :
 Nat) *
 x0.es.length =
 (3 :
 Nat) ∧
 x0.vs =
 vs ∧
 x0.vs.length =
 (c -
 (1 :
 Nat)) *
 (3 :
 Nat) ∧
 Vx.Sub
 ((Sw.parL
 g).G
 x0)
 y_5.G ∧
 (Sw.parL
 g).inv
 x0 ∧
 ∀
 (x_10 :
 Sw.ParI), (Sw.parL
 g).inv
 x_10 →
 ∀
 (d :
 Nat →
 Go.Value), (Decidable.decide
 (x_10.i <
 g.n) =
 Bool.true →
 ((!x_10.bad) =
 Bool.true →
 ∃
 (x
 :
 Sw.RdrX), x.p =
 x_10.p ∧
 x.l =
 x_10.l ∧
 x.c =
 x_10.c ∧
 x.bad =
 x_10.bad ∧
 Vx.Sub
 (Sw.conREv.G
 x)
 x_10.G ∧
 Sw.conREv.pre
 x ∧
 ∀
 (y :
 Sw.EvRY), Sw.conREv.post
 x
 y →
 x_10.es.length =
 x_10.es.length ∧
 x_10.ec =
 x_10.ec ∧
 x_10.es.length =
 x_10.es.length ∧
 x_10.ec =
 x_10.ec ∧
 (x_10.es.length +
 (1 :
 Nat)) *
 (40 :
 Nat) ≤
 (140737488355328 :
 Nat) ∧
 ((x_10.es.length +
 (1 :
 Nat)) *
 (40 :
 Nat) ≤
 (140737488355328 :
 Nat) →
 x_10.es.length +
 (1 :
 Nat) ≤
 (9223372036854775807 :
 Nat) ∧
 (x_10.es.length +
 (1 :
 Nat) ≤
 (9223372036854775807 :
 Nat) →
 (3 :
 Nat) *
 x_10.es.length =
 x_10.es.length *
 (3 :
 Nat) ∧
 ((3 :
 Nat) *
 x_10.es.length =
 x_10.es.length *
 (3 :
 Nat) →
 x_10.vs.length =
 (x_10.ec -
 x_10.es.length) *
 (3 :
 Nat) ∧
 (x_10.vs.length =
 (x_10.ec -
 x_10.es.length) *
 (3 :
 Nat) →
 x_10.es.length ≤
 x_10.ec ∧
 (x_10.es.length ≤
 x_10.ec →
 ∀
 (c :
 Nat)
 (vs :
 List
 Go.Value), x_10.es.length +
 (1 :
 Nat) ≤
 c →
 vs.length =
 (c -
 (x_10.es.length +
 (1 :
 Nat))) *
 (3 :
 Nat) →
 (∀
 (v :
 Go.Value), v ∈
 vs →
 v.oneCell' =
 Bool.true) →
 ∀
 (r :
 Int), r =
 Go.IntKind.u64.wrap
 (x_10.i +
 (1 :
 Int)) →
 ∃
 (x'
 :
 Sw.ParI), (Sw.parL
 g).inv
 x' ∧
 (Sw.parL
 g).mea
 x' <
 (Sw.parL
 g).mea
 x_10 ∧
 g.lk =
 g.lk ∧
 g.n =
 g.n ∧
 x'.i =
 r ∧
 x'.p =
 y.p ∧
 x'.l =
 y.l ∧
 x'.c =
 y.c ∧
 x'.bad =
 y.bad ∧
 g.r.ram =
 g.r.ram ∧
 g.r.sec =
 g.r.sec ∧
 g.r.locked =
 g.r.locked ∧
 g.r.dp =
 g.r.dp ∧
 g.r.dl =
 g.r.dl ∧
 g.r.dc =
 g.r.dc ∧
 g.r.ip =
 g.r.ip ∧
 g.r.il =
 g.r.il ∧
 g.r.ic =
 g.r.ic ∧
 g.r.name =
 g.r.name ∧
 x'.es.length =
 x_10.es.length +
 (1 :
 Nat) ∧
 x'.ec =
 c ∧
 Sw.evsCells
 x'.es =
 Sw.evsCells
 x_10.es ++
 ([Go.Value.int
 Go.IntKind.i64
 y.e.k] ++
 ([Go.Value.int
 Go.IntKind.u64
 y.e.a] ++
 [Go.Value.slice
 y.e.p
 y.e.l
 y.e.c])) ∧
 (3 :
 Nat) *
 x'.es.length =
 (3 :
 Nat) *
 x_10.es.length +
 (3 :
 Nat) ∧
 x'.vs =
 vs ∧
 x'.vs.length =
 (c -
 (x_10.es.length +
 (1 :
 Nat))) *
 (3 :
 Nat) ∧
 Vx.Sub
 ((Sw.parL
 g).G
 x')
 y.G ∧
 True)))))) ∧
 ((!x_10.bad) =
 Bool.false →
 (x_10.bad =
 Bool.true →
 (∃
 (y
 :
 Sw.ParY), Sw.conParse.post
 x
 y ∧
 y.r.ram =
 (0 :
 Int) ∧
 y.r.sec =
 (0 :
 Int) ∧
 y.r.locked =
 Bool.false ∧
 y.r.dp =
 Option.none ∧
 y.r.dl =
 (0 :
 Nat) ∧
 y.r.dc =
 (0 :
 Nat) ∧
 y.r.ip =
 Option.none ∧
 y.r.il =
 (0 :
 Nat) ∧
 y.r.ic =
 (0 :
 Nat) ∧
 y.r.name =
 {
 data :=
 #[] } ∧
 y.r.ep =
 Option.none ∧
 y.r.el =
 (0 :
 Nat) ∧
 y.r.ec =
 (0 :
 Nat) ∧
 y.err =
 (250 :
 Int) ∧
 Vx.Sub
 (Sw.conParse.G'
 x
 y)
 x_10.G ∧
 True) ∨
 ∃
 (y
 :
 Sw.frzPar.Y), Sw.frzPar.post
 x
 y ∧
 y.r.ram =
 (0 :
 Int) ∧
 y.r.sec =
 (0 :
 Int) ∧
 y.r.locked =
 Bool.false ∧
 y.r.dp =
 Option.none ∧
 y.r.dl =
 (0 :
 Nat) ∧
 y.r.dc =
 (0 :
 Nat) ∧
 y.r.ip =
 Option.none ∧
 y.r.il =
 (0 :
 Nat) ∧
 y.r.ic =
 (0 :
 Nat) ∧
 y.r.name =
 {
 data :=
 #[] } ∧
 False) ∧
 (x_10.bad =
 Bool.false →
 (Decidable.decide
 ((↑x_10.l :
 Int) >
 (0 :
 Int)) =
 Bool.true →
 (∃
 (y
 :
 Sw.ParY), Sw.conParse.post
 x
 y ∧
 y.r.ram =
 (0 :
 Int) ∧
 y.r.sec =
 (0 :
 Int) ∧
 y.r.locked =
 Bool.false ∧
 y.r.dp =
 Option.none ∧
 y.r.dl =
 (0 :
 Nat) ∧
 y.r.dc =
 (0 :
 Nat) ∧
 y.r.ip =
 Option.none ∧
 y.r.il =
 (0 :
 Nat) ∧
 y.r.ic =
 (0 :
 Nat) ∧
 y.r.name =
 {
 data :=
 #[] } ∧
 y.r.ep =
 Option.none ∧
 y.r.el =
 (0 :
 Nat) ∧
 y.r.ec =
 (0 :
 Nat) ∧
 y.err =
 (250 :
 Int) ∧
 Vx.Sub
 (Sw.conParse.G'
 x
 y)
 x_10.G ∧
 True) ∨
 ∃
 (y
 :
 Sw.frzPar.Y), Sw.frzPar.post
 x
 y ∧
 y.r.ram =
 (0 :
 Int) ∧
 y.r.sec =
 (0 :
 Int) ∧
 y.r.locked =
 Bool.false ∧
 y.r.dp =
 Option.none ∧
 y.r.dl =
 (0 :
 Nat) ∧
 y.r.dc =
 (0 :
 Nat) ∧
 y.r.ip =
 Option.none ∧
 y.r.il =
 (0 :
 Nat) ∧
 y.r.ic =
 (0 :
 Nat) ∧
 y.r.name =
 {
 data :=
 #[] } ∧
 False) ∧
 (Decidable.decide
 ((↑x_10.l :
 Int) >
 (0 :
 Int)) =
 Bool.false →
 (Decidable.decide
 (g.lk >
 (1 :
 Int)) =
 Bool.true →
 (∃
 (y
 :
 Sw.ParY), Sw.conParse.post
 x
 y ∧
 y.r.ram =
 (0 :
 Int) ∧
 y.r.sec =
 (0 :
 Int) ∧
 y.r.locked =
 Bool.false ∧
 y.r.dp =
 Option.none ∧
 y.r.dl =
 (0 :
 Nat) ∧
 y.r.dc =
 (0 :
 Nat) ∧
 y.r.ip =
 Option.none ∧
 y.r.il =
 (0 :
 Nat) ∧
 y.r.ic =
 (0 :
 Nat) ∧
 y.r.name =
 {
 data :=
 #[] } ∧
 y.r.ep =
 Option.none ∧
 y.r.el =
 (0 :
 Nat) ∧
 y.r.ec =
 (0 :
 Nat) ∧
 y.err =
 (250 :
 Int) ∧
 Vx.Sub
 (Sw.conParse.G'
 x
 y)
 x_10.G ∧
 True) ∨
 ∃
 (y
 :
 Sw.frzPar.Y), Sw.frzPar.post
 x
 y ∧
 y.r.ram =
 (0 :
 Int) ∧
 y.r.sec =
 (0 :
 Int) ∧
 y.r.locked =
 Bool.false ∧
 y.r.dp =
 Option.none ∧
 y.r.dl =
 (0 :
 Nat) ∧
 y.r.dc =
 (0 :
 Nat) ∧
 y.r.ip =
 Option.none ∧
 y.r.il =
 (0 :
 Nat) ∧
 y.r.ic =
 (0 :
 Nat) ∧
 y.r.name =
 {
 data :=
 #[] } ∧
 False) ∧
 (Decidable.decide
 (g.lk >
 (1 :
 Int)) =
 Bool.false →
 (∃
 (y
 :
 Sw.ParY), Sw.conParse.post
 x
 y ∧
 y.r.ram =
 g.r.ram ∧
 y.r.sec =
 g.r.sec ∧
 y.r.locked =
 g.r.locked ∧
 y.r.dp =
 g.r.dp ∧
 y.r.dl =
 g.r.dl ∧
 y.r.dc =
 g.r.dc ∧
 y.r.ip =
 g.r.ip ∧
 y.r.il =
 g.r.il ∧
 y.r.ic =
 g.r.ic ∧
 y.r.name =
 g.r.name ∧
 False) ∨
 ∃
 (y
 :
 Sw.frzPar.Y), Sw.frzPar.post
 x
 y ∧
 y.r.ram =
 g.r.ram ∧
 y.r.sec =
 g.r.sec ∧
 y.r.locked =
 g.r.locked ∧
 y.r.dp =
 g.r.dp ∧
 y.r.dl =
 g.r.dl ∧
 y.r.dc =
 g.r.dc ∧
 y.r.ip =
 g.r.ip ∧
 y.r.il =
 g.r.il ∧
 y.r.ic =
 g.r.ic ∧
 y.r.name =
 g.r.name ∧
 y.r.el =
 x_10.es.length ∧
 y.r.ec =
 x_10.ec ∧
 Sw.evsCells
 y.r.evs =
 Sw.evsCells
 x_10.es ∧
 (3 :
 Nat) *
 y.r.evs.length =
 (3 :
 Nat) *
 x_10.es.length ∧
 y.vs =
 x_10.vs ∧
 y.vs.length =
 x_10.vs.length ∧
 Vx.Sub
 (Sw.frzPar.G'
 x
 y)
 x_10.G ∧
 True))))) ∧
 (Decidable.decide
 (x_10.i <
 g.n) =
 Bool.false →
 (x_10.bad =
 Bool.true →
 (∃
 (y
 :
 Sw.ParY), Sw.conParse.post
 x
 y ∧
 y.r.ram =
 (0 :
 Int) ∧
 y.r.sec =
 (0 :
 Int) ∧
 y.r.locked =
 Bool.false ∧
 y.r.dp =
 Option.none ∧
 y.r.dl =
 (0 :
 Nat) ∧
 y.r.dc =
 (0 :
 Nat) ∧
 y.r.ip =
 Option.none ∧
 y.r.il =
 (0 :
 Nat) ∧
 y.r.ic =
 (0 :
 Nat) ∧
 y.r.name =
 {
 data :=
 #[] } ∧
 y.r.ep =
 Option.none ∧
 y.r.el =
 (0 :
 Nat) ∧
 y.r.ec =
 (0 :
 Nat) ∧
 y.err =
 (250 :
 Int) ∧
 Vx.Sub
 (Sw.conParse.G'
 x
 y)
 x_10.G ∧
 True) ∨
 ∃
 (y
 :
 Sw.frzPar.Y), Sw.frzPar.post
 x
 y ∧
 y.r.ram =
 (0 :
 Int) ∧
 y.r.sec =
 (0 :
 Int) ∧
 y.r.locked =
 Bool.false ∧
 y.r.dp =
 Option.none ∧
 y.r.dl =
 (0 :
 Nat) ∧
 y.r.dc =
 (0 :
 Nat) ∧
 y.r.ip =
 Option.none ∧
 y.r.il =
 (0 :
 Nat) ∧
 y.r.ic =
 (0 :
 Nat) ∧
 y.r.name =
 {
 data :=
 #[] } ∧
 False) ∧
 (x_10.bad =
 Bool.false →
 (Decidable.decide
 ((↑x_10.l :
 Int) >
 (0 :
 Int)) =
 Bool.true →
 (∃
 (y
 :
 Sw.ParY), Sw.conParse.post
 x
 y ∧
 y.r.ram =
 (0 :
 Int) ∧
 y.r.sec =
 (0 :
 Int) ∧
 y.r.locked =
 Bool.false ∧
 y.r.dp =
 Option.none ∧
 y.r.dl =
 (0 :
 Nat) ∧
 y.r.dc =
 (0 :
 Nat) ∧
 y.r.ip =
 Option.none ∧
 y.r.il =
 (0 :
 Nat) ∧
 y.r.ic =
 (0 :
 Nat) ∧
 y.r.name =
 {
 data :=
 #[] } ∧
 y.r.ep =
 Option.none ∧
 y.r.el =
 (0 :
 Nat) ∧
 y.r.ec =
 (0 :
 Nat) ∧
 y.err =
 (250 :
 Int) ∧
 Vx.Sub
 (Sw.conParse.G'
 x
 y)
 x_10.G ∧
 True) ∨
 ∃
 (y
 :
 Sw.frzPar.Y), Sw.frzPar.post
 x
 y ∧
 y.r.ram =
 (0 :
 Int) ∧
 y.r.sec =
 (0 :
 Int) ∧
 y.r.locked =
 Bool.false ∧
 y.r.dp =
 Option.none ∧
 y.r.dl =
 (0 :
 Nat) ∧
 y.r.dc =
 (0 :
 Nat) ∧
 y.r.ip =
 Option.none ∧
 y.r.il =
 (0 :
 Nat) ∧
 y.r.ic =
 (0 :
 Nat) ∧
 y.r.name =
 {
 data :=
 #[] } ∧
 False) ∧
 (Decidable.decide
 ((↑x_10.l :
 Int) >
 (0 :
 Int)) =
 Bool.false →
 (Decidable.decide
 (g.lk >
 (1 :
 Int)) =
 Bool.true →
 (∃
 (y
 :
 Sw.ParY), Sw.conParse.post
 x
 y ∧
 y.r.ram =
 (0 :
 Int) ∧
 y.r.sec =
 (0 :
 Int) ∧
 y.r.locked =
 Bool.false ∧
 y.r.dp =
 Option.none ∧
 y.r.dl =
 (0 :
 Nat) ∧
 y.r.dc =
 (0 :
 Nat) ∧
 y.r.ip =
 Option.none ∧
 y.r.il =
 (0 :
 Nat) ∧
 y.r.ic =
 (0 :
 Nat) ∧
 y.r.name =
 {
 data :=
 #[] } ∧
 y.r.ep =
 Option.none ∧
 y.r.el =
 (0 :
 Nat) ∧
 y.r.ec =
 (0 :
 Nat) ∧
 y.err =
 (250 :
 Int) ∧
 Vx.Sub
 (Sw.conParse.G'
 x
 y)
 x_10.G ∧
 True) ∨
 ∃
 (y
 :
 Sw.frzPar.Y), Sw.frzPar.post
 x
 y ∧
 y.r.ram =
 (0 :
 Int) ∧
 y.r.sec =
 (0 :
 Int) ∧
 y.r.locked =
 Bool.false ∧
 y.r.dp =
 Option.none ∧
 y.r.dl =
 (0 :
 Nat) ∧
 y.r.dc =
 (0 :
 Nat) ∧
 y.r.ip =
 Option.none ∧
 y.r.il =
 (0 :
 Nat) ∧
 y.r.ic =
 (0 :
 Nat) ∧
 y.r.name =
 {
 data :=
 #[] } ∧
 False) ∧
 (Decidable.decide
 (g.lk >
 (1 :
 Int)) =
 Bool.false →
 (∃
 (y
 :
 Sw.ParY), Sw.conParse.post
 x
 y ∧
 y.r.ram =
 g.r.ram ∧
 y.r.sec =
 g.r.sec ∧
 y.r.locked =
 g.r.locked ∧
 y.r.dp =
 g.r.dp ∧
 y.r.dl =
 g.r.dl ∧
 y.r.dc =
 g.r.dc ∧
 y.r.ip =
 g.r.ip ∧
 y.r.il =
 g.r.il ∧
 y.r.ic =
 g.r.ic ∧
 y.r.name =
 g.r.name ∧
 False) ∨
 ∃
 (y
 :
 Sw.frzPar.Y), Sw.frzPar.post
 x
 y ∧
 y.r.ram =
 g.r.ram ∧
 y.r.sec =
 g.r.sec ∧
 y.r.locked =
 g.r.locked ∧
 y.r.dp =
 g.r.dp ∧
 y.r.dl =
 g.r.dl ∧
 y.r.dc =
 g.r.dc ∧
 y.r.ip =
 g.r.ip ∧
 y.r.il =
 g.r.il ∧
 y.r.ic =
 g.r.ic ∧
 y.r.name =
 g.r.name ∧
 y.r.el =
 x_10.es.length ∧
 y.r.ec =
 x_10.ec ∧
 Sw.evsCells
 y.r.evs =
 Sw.evsCells
 x_10.es ∧
 (3 :
 Nat) *
 y.r.evs.length =
 (3 :
 Nat) *
 x_10.es.length ∧
 y.vs =
 x_10.vs ∧
 y.vs.length =
 x_10.vs.length ∧
 Vx.Sub
 (Sw.frzPar.G'
 x
 y)
 x_10.G ∧
 True))))) ∧
 ((!y_4.bad) =
 Bool.false →
 (y_4.bad =
 Bool.true →
 (∃
 (y
 :
 Sw.ParY), Sw.conParse.post
 x
 y ∧
 y.r.ram =
 (0 :
 Int) ∧
 y.r.sec =
 (0 :
 Int) ∧
 y.r.locked =
 Bool.false ∧
 y.r.dp =
 Option.none ∧
 y.r.dl =
 (0 :
 Nat) ∧
 y.r.dc =
 (0 :
 Nat) ∧
 y.r.ip =
 Option.none ∧
 y.r.il =
 (0 :
 Nat) ∧
 y.r.ic =
 (0 :
 Nat) ∧
 y.r.name =
 {
 data :=
 #[] } ∧
 y.r.ep =
 Option.none ∧
 y.r.el =
 (0 :
 Nat) ∧
 y.r.ec =
 (0 :
 Nat) ∧
 y.err =
 (250 :
 Int) ∧
 Vx.Sub
 (Sw.conParse.G'
 x
 y)
 x_8.G ∧
 True) ∨
 ∃
 (y
 :
 Sw.frzPar.Y), Sw.frzPar.post
 x
 y ∧
 y.r.ram =
 (0 :
 Int) ∧
 y.r.sec =
 (0 :
 Int) ∧
 y.r.locked =
 Bool.false ∧
 y.r.dp =
 Option.none ∧
 y.r.dl =
 (0 :
 Nat) ∧
 y.r.dc =
 (0 :
 Nat) ∧
 y.r.ip =
 Option.none ∧
 y.r.il =
 (0 :
 Nat) ∧
 y.r.ic =
 (0 :
 Nat) ∧
 y.r.name =
 {
 data :=
 #[] } ∧
 False) ∧
 (y_4.bad =
 Bool.false →
 (Decidable.decide
 ((↑y_4.l :
 Int) >
 (0 :
 Int)) =
 Bool.true →
 (∃
 (y
 :
 Sw.ParY), Sw.conParse.post
 x
 y ∧
 y.r.ram =
 (0 :
 Int) ∧
 y.r.sec =
 (0 :
 Int) ∧
 y.r.locked =
 Bool.false ∧
 y.r.dp =
 Option.none ∧
 y.r.dl =
 (0 :
 Nat) ∧
 y.r.dc =
 (0 :
 Nat) ∧
 y.r.ip =
 Option.none ∧
 y.r.il =
 (0 :
 Nat) ∧
 y.r.ic =
 (0 :
 Nat) ∧
 y.r.name =
 {
 data :=
 #[] } ∧
 y.r.ep =
 Option.none ∧
 y.r.el =
 (0 :
 Nat) ∧
 y.r.ec =
 (0 :
 Nat) ∧
 y.err =
 (250 :
 Int) ∧
 Vx.Sub
 (Sw.conParse.G'
 x
 y)
 x_8.G ∧
 True) ∨
 ∃
 (y
 :
 Sw.frzPar.Y), Sw.frzPar.post
 x
 y ∧
 y.r.ram =
 (0 :
 Int) ∧
 y.r.sec =
 (0 :
 Int) ∧
 y.r.locked =
 Bool.false ∧
 y.r.dp =
 Option.none ∧
 y.r.dl =
 (0 :
 Nat) ∧
 y.r.dc =
 (0 :
 Nat) ∧
 y.r.ip =
 Option.none ∧
 y.r.il =
 (0 :
 Nat) ∧
 y.r.ic =
 (0 :
 Nat) ∧
 y.r.name =
 {
 data :=
 #[] } ∧
 False) ∧
 (Decidable.decide
 ((↑y_4.l :
 Int) >
 (0 :
 Int)) =
 Bool.false →
 (Decidable.decide
 (x_7.lk >
 (1 :
 Int)) =
 Bool.true →
 (∃
 (y
 :
 Sw.ParY), Sw.conParse.post
 x
 y ∧
 y.r.ram =
 (0 :
 Int) ∧
 y.r.sec =
 (0 :
 Int) ∧
 y.r.locked =
 Bool.false ∧
 y.r.dp =
 Option.none ∧
 y.r.dl =
 (0 :
 Nat) ∧
 y.r.dc =
 (0 :
 Nat) ∧
 y.r.ip =
 Option.none ∧
 y.r.il =
 (0 :
 Nat) ∧
 y.r.ic =
 (0 :
 Nat) ∧
 y.r.name =
 {
 data :=
 #[] } ∧
 y.r.ep =
 Option.none ∧
 y.r.el =
 (0 :
 Nat) ∧
 y.r.ec =
 (0 :
 Nat) ∧
 y.err =
 (250 :
 Int) ∧
 Vx.Sub
 (Sw.conParse.G'
 x
 y)
 x_8.G ∧
 True) ∨
 ∃
 (y
 :
 Sw.frzPar.Y), Sw.frzPar.post
 x
 y ∧
 y.r.ram =
 (0 :
 Int) ∧
 y.r.sec =
 (0 :
 Int) ∧
 y.r.locked =
 Bool.false ∧
 y.r.dp =
 Option.none ∧
 y.r.dl =
 (0 :
 Nat) ∧
 y.r.dc =
 (0 :
 Nat) ∧
 y.r.ip =
 Option.none ∧
 y.r.il =
 (0 :
 Nat) ∧
 y.r.ic =
 (0 :
 Nat) ∧
 y.r.name =
 {
 data :=
 #[] } ∧
 False) ∧
 (Decidable.decide
 (x_7.lk >
 (1 :
 Int)) =
 Bool.false →
 (∃
 (y_5
 :
 Sw.ParY), Sw.conParse.post
 x
 y_5 ∧
 y_5.r.ram =
 x_7.ram ∧
 y_5.r.sec =
 x_7.sec ∧
 y_5.r.locked =
 x_7.locked ∧
 y_5.r.dp =
 y.dp ∧
 y_5.r.dl =
 y.dl ∧
 y_5.r.dc =
 y.dc ∧
 y_5.r.ip =
 y.ip ∧
 y_5.r.il =
 y.il ∧
 y_5.r.ic =
 y.ic ∧
 y_5.r.name =
 y.name ∧
 y_5.r.ep =
 Option.none ∧
 y_5.r.el =
 (0 :
 Nat) ∧
 y_5.r.ec =
 (0 :
 Nat) ∧
 y_5.err =
 (0 :
 Int) ∧
 Vx.Sub
 (Sw.conParse.G'
 x
 y_5)
 x_8.G ∧
 True) ∨
 ∃
 (y_5
 :
 Sw.frzPar.Y), Sw.frzPar.post
 x
 y_5 ∧
 y_5.r.ram =
 x_7.ram ∧
 y_5.r.sec =
 x_7.sec ∧
 y_5.r.locked =
 x_7.locked ∧
 y_5.r.dp =
 y.dp ∧
 y_5.r.dl =
 y.dl ∧
 y_5.r.dc =
 y.dc ∧
 y_5.r.ip =
 y.ip ∧
 y_5.r.il =
 y.il ∧
 y_5.r.ic =
 y.ic ∧
 y_5.r.name =
 y.name ∧
 False))))) ∧
 (Decidable.decide
 ((0 :
 Int) <
 y_4.v) =
 Bool.false →
 (y_4.bad =
 Bool.true →
 (∃
 (y
 :
 Sw.ParY), Sw.conParse.post
 x
 y ∧
 y.r.ram =
 (0 :
 Int) ∧
 y.r.sec =
 (0 :
 Int) ∧
 y.r.locked =
 Bool.false ∧
 y.r.dp =
 Option.none ∧
 y.r.dl =
 (0 :
 Nat) ∧
 y.r.dc =
 (0 :
 Nat) ∧
 y.r.ip =
 Option.none ∧
 y.r.il =
 (0 :
 Nat) ∧
 y.r.ic =
 (0 :
 Nat) ∧
 y.r.name =
 {
 data :=
 #[] } ∧
 y.r.ep =
 Option.none ∧
 y.r.el =
 (0 :
 Nat) ∧
 y.r.ec =
 (0 :
 Nat) ∧
 y.err =
 (250 :
 Int) ∧
 Vx.Sub
 (Sw.conParse.G'
 x
 y)
 x_8.G ∧
 True) ∨
 ∃
 (y
 :
 Sw.frzPar.Y), Sw.frzPar.post
 x
 y ∧
 y.r.ram =
 (0 :
 Int) ∧
 y.r.sec =
 (0 :
 Int) ∧
 y.r.locked =
 Bool.false ∧
 y.r.dp =
 Option.none ∧
 y.r.dl =
 (0 :
 Nat) ∧
 y.r.dc =
 (0 :
 Nat) ∧
 y.r.ip =
 Option.none ∧
 y.r.il =
 (0 :
 Nat) ∧
 y.r.ic =
 (0 :
 Nat) ∧
 y.r.name =
 {
 data :=
 #[] } ∧
 False) ∧
 (y_4.bad =
 Bool.false →
 (Decidable.decide
 ((↑y_4.l :
 Int) >
 (0 :
 Int)) =
 Bool.true →
 (∃
 (y
 :
 Sw.ParY), Sw.conParse.post
 x
 y ∧
 y.r.ram =
 (0 :
 Int) ∧
 y.r.sec =
 (0 :
 Int) ∧
 y.r.locked =
 Bool.false ∧
 y.r.dp =
 Option.none ∧
 y.r.dl =
 (0 :
 Nat) ∧
 y.r.dc =
 (0 :
 Nat) ∧
 y.r.ip =
 Option.none ∧
 y.r.il =
 (0 :
 Nat) ∧
 y.r.ic =
 (0 :
 Nat) ∧
 y.r.name =
 {
 data :=
 #[] } ∧
 y.r.ep =
 Option.none ∧
 y.r.el =
 (0 :
 Nat) ∧
 y.r.ec =
 (0 :
 Nat) ∧
 y.err =
 (250 :
 Int) ∧
 Vx.Sub
 (Sw.conParse.G'
 x
 y)
 x_8.G ∧
 True) ∨
 ∃
 (y
 :
 Sw.frzPar.Y), Sw.frzPar.post
 x
 y ∧
 y.r.ram =
 (0 :
 Int) ∧
 y.r.sec =
 (0 :
 Int) ∧
 y.r.locked =
 Bool.false ∧
 y.r.dp =
 Option.none ∧
 y.r.dl =
 (0 :
 Nat) ∧
 y.r.dc =
 (0 :
 Nat) ∧
 y.r.ip =
 Option.none ∧
 y.r.il =
 (0 :
 Nat) ∧
 y.r.ic =
 (0 :
 Nat) ∧
 y.r.name =
 {
 data :=
 #[] } ∧
 False) ∧
 (Decidable.decide
 ((↑y_4.l :
 Int) >
 (0 :
 Int)) =
 Bool.false →
 (Decidable.decide
 (x_7.lk >
 (1 :
 Int)) =
 Bool.true →
 (∃
 (y
 :
 Sw.ParY), Sw.conParse.post
 x
 y ∧
 y.r.ram =
 (0 :
 Int) ∧
 y.r.sec =
 (0 :
 Int) ∧
 y.r.locked =
 Bool.false ∧
 y.r.dp =
 Option.none ∧
 y.r.dl =
 (0 :
 Nat) ∧
 y.r.dc =
 (0 :
 Nat) ∧
 y.r.ip =
 Option.none ∧
 y.r.il =
 (0 :
 Nat) ∧
 y.r.ic =
 (0 :
 Nat) ∧
 y.r.name =
 {
 data :=
 #[] } ∧
 y.r.ep =
 Option.none ∧
 y.r.el =
 (0 :
 Nat) ∧
 y.r.ec =
 (0 :
 Nat) ∧
 y.err =
 (250 :
 Int) ∧
 Vx.Sub
 (Sw.conParse.G'
 x
 y)
 x_8.G ∧
 True) ∨
 ∃
 (y
 :
 Sw.frzPar.Y), Sw.frzPar.post
 x
 y ∧
 y.r.ram =
 (0 :
 Int) ∧
 y.r.sec =
 (0 :
 Int) ∧
 y.r.locked =
 Bool.false ∧
 y.r.dp =
 Option.none ∧
 y.r.dl =
 (0 :
 Nat) ∧
 y.r.dc =
 (0 :
 Nat) ∧
 y.r.ip =
 Option.none ∧
 y.r.il =
 (0 :
 Nat) ∧
 y.r.ic =
 (0 :
 Nat) ∧
 y.r.name =
 {
 data :=
 #[] } ∧
 False) ∧
 (Decidable.decide
 (x_7.lk >
 (1 :
 Int)) =
 Bool.false →
 (∃
 (y_5
 :
 Sw.ParY), Sw.conParse.post
 x
 y_5 ∧
 y_5.r.ram =
 x_7.ram ∧
 y_5.r.sec =
 x_7.sec ∧
 y_5.r.locked =
 x_7.locked ∧
 y_5.r.dp =
 y.dp ∧
 y_5.r.dl =
 y.dl ∧
 y_5.r.dc =
 y.dc ∧
 y_5.r.ip =
 y.ip ∧
 y_5.r.il =
 y.il ∧
 y_5.r.ic =
 y.ic ∧
 y_5.r.name =
 y.name ∧
 y_5.r.ep =
 Option.none ∧
 y_5.r.el =
 (0 :
 Nat) ∧
 y_5.r.ec =
 (0 :
 Nat) ∧
 y_5.err =
 (0 :
 Int) ∧
 Vx.Sub
 (Sw.conParse.G'
 x
 y_5)
 x_8.G ∧
 True) ∨
 ∃
 (y_5
 :
 Sw.frzPar.Y), Sw.frzPar.post
 x
 y_5 ∧
 y_5.r.ram =
 x_7.ram ∧
 y_5.r.sec =
 x_7.sec ∧
 y_5.r.locked =
 x_7.locked ∧
 y_5.r.dp =
 y.dp ∧
 y_5.r.dl =
 y.dl ∧
 y_5.r.dc =
 y.dc ∧
 y_5.r.ip =
 y.ip ∧
 y_5.r.il =
 y.il ∧
 y_5.r.ic =
 y.ic ∧
 y_5.r.name =
 y.name ∧
 False)))))))))))))) := by kernel_rfl
end Sw
end
section
/- A record's bytes, read back piece by piece: the plain law. -/
namespace Sw
set_option maxRecDepth 100000
open Go Go.Proofs Vx

theorem text_inj {a b r s : List Int} (ha : a.length < 18446744073709551616) (hb : b.length < 18446744073709551616) (h : textB a ++ r = textB b ++ s) : a = b ∧ r = s := by
  rw [textB, textB, List.append_assoc, List.append_assoc] at h
  obtain ⟨h1, h2⟩ := num_inj ha hb h
  exact List.append_inj h2 h1
theorem ev_inj {e f : Ev} {r s : List Int} (he : IsByte e.k ∧ IsU64 e.a ∧ e.d.length < 18446744073709551616) (hf : IsByte f.k ∧ IsU64 f.a ∧ f.d.length < 18446744073709551616) (h : evB e ++ r = evB f ++ s) : EvSame e f ∧ r = s := by
  obtain ⟨⟨e1, e2⟩, ⟨e3, e4⟩, e5⟩ := he
  obtain ⟨⟨f1, f2⟩, ⟨f3, f4⟩, f5⟩ := hf
  have hw : IntKind.u64.wrap e.k = e.k := by rw [wu64]; omega
  have hw' : IntKind.u64.wrap f.k = f.k := by rw [wu64]; omega
  simp only [evB, List.append_assoc, hw, hw'] at h
  obtain ⟨h1, h⟩ := num_inj (by omega) (by omega) h
  obtain ⟨h2, h⟩ := num_inj (by omega) (by omega) h
  obtain ⟨h3, h⟩ := text_inj e5 f5 h
  exact ⟨⟨by omega, by omega, h3⟩, h⟩
theorem numB_pos (n : Nat) : 1 ≤ (numB 10 n).length := by
  rw [numB]
  split <;> simp
theorem evB_len (e : Ev) : 3 ≤ (evB e).length := by
  have h1 := numB_pos (IntKind.u64.wrap e.k).toNat
  have h2 := numB_pos e.a.toNat
  have h3 := numB_pos e.d.length
  simp only [evB, textB, List.length_append]
  omega

/-- All pieces of a record's bytes. -/
theorem recB_eq (r : RecX) : recB r = numB 10 478443366774 ++ (numB 10 r.ram.toNat ++ (numB 10 r.sec.toNat ++ (numB 10 (cond r.locked 1 0) ++ (textB r.dd ++ (textB r.id ++ (textB (bytesOf r.name) ++ (numB 10 r.el ++ evsB r.evs))))))) := by
  have : numB 10 478443366774 = [246, 210, 201, 171, 246, 13] := by decide +kernel
  rw [this]
  simp only [recB, headB, List.append_assoc]
theorem Cur.start (pay : List Int) : Cur pay [] false pay (fun r => recB r) fun _ => True := .inr ⟨rfl, rfl, fun _ _ h => ⟨h, trivial⟩⟩
theorem Cur.as {pay pre : List Int} {bad : Bool} {d : List Int} {tl tl' : RecX → List Int} {Q : RecX → Prop} (h : Cur pay pre bad d tl Q) (e : ∀ r, tl r = tl' r) : Cur pay pre bad d tl' Q := by
  rcases h with h | ⟨h1, h2, h3⟩
  · exact .inl h
  · exact .inr ⟨h1, h2, fun r hc hr => ⟨(h3 r hc hr).1.trans (e r), (h3 r hc hr).2⟩⟩
theorem Cur.num {pay pre : List Int} {bad bad' : Bool} {d d' : List Int} {tl : RecX → List Int} {Q : RecX → Prop} {f : RecX → Nat} (h : Cur pay pre bad d (fun r => numB 10 (f r) ++ tl r) Q) (hf : ∀ r, Canon r → f r < 18446744073709551616)
    {v : Nat} (hv : v < 18446744073709551616) (hp : (bad' = true ∧ (bad = true ∨ ¬ HasNum d)) ∨ (bad' = bad ∧ d = numB 10 v ++ d')) : Cur pay (pre ++ numB 10 v) bad' d' tl fun r => Q r ∧ f r = v := by
  rcases h with ⟨h1, h2⟩ | ⟨h1, h2, h3⟩
  · refine .inl ⟨?_, h2⟩
    rcases hp with ⟨hp, _⟩ | ⟨hp, _⟩
    · exact hp
    · rw [hp, h1]
  · rcases hp with ⟨hp, hq⟩ | ⟨hp, hq⟩
    · refine .inl ⟨hp, fun ⟨r, hc, hr⟩ => ?_⟩
      rcases hq with hq | hq
      · rw [h1] at hq; cases hq
      · exact hq ⟨f r, tl r, hf r hc, (h3 r hc hr).1⟩
    · refine .inr ⟨by rw [hp, h1], by rw [h2, hq, List.append_assoc], fun r hc hr => ?_⟩
      obtain ⟨g1, g2⟩ := h3 r hc hr
      rw [hq] at g1
      obtain ⟨g3, g4⟩ := num_inj hv (hf r hc) g1
      exact ⟨g4, g2, g3.symm⟩
theorem Cur.text3 {pay pre : List Int} {bad bad' : Bool} {d d' : List Int} {tl : RecX → List Int} {Q : RecX → Prop} {f g k : RecX → List Int} (h : Cur pay pre bad d (fun r => textB (f r) ++ (textB (g r) ++ (textB (k r) ++ tl r))) Q)
    (hf : ∀ r, Canon r → (f r).length < 18446744073709551616 ∧ (g r).length < 18446744073709551616 ∧ (k r).length < 18446744073709551616)
    {a b c : List Int} (hv : a.length < 18446744073709551616 ∧ b.length < 18446744073709551616 ∧ c.length < 18446744073709551616)
    (hp : (bad' = true ∧ (bad = true ∨ ¬ HasText3 d)) ∨ (bad' = bad ∧ d = textB a ++ (textB b ++ (textB c ++ d')))) : Cur pay (pre ++ (textB a ++ (textB b ++ textB c))) bad' d' tl fun r => Q r ∧ f r = a ∧ g r = b ∧ k r = c := by
  rcases h with ⟨h1, h2⟩ | ⟨h1, h2, h3⟩
  · refine .inl ⟨?_, h2⟩
    rcases hp with ⟨hp, _⟩ | ⟨hp, _⟩
    · exact hp
    · rw [hp, h1]
  · rcases hp with ⟨hp, hq⟩ | ⟨hp, hq⟩
    · refine .inl ⟨hp, fun ⟨r, hc, hr⟩ => ?_⟩
      rcases hq with hq | hq
      · rw [h1] at hq; cases hq
      · exact hq ⟨f r, g r, k r, tl r, (hf r hc).1, (hf r hc).2.1, (hf r hc).2.2, (h3 r hc hr).1⟩
    · refine .inr ⟨by rw [hp, h1], by rw [h2, hq]; simp only [List.append_assoc], fun r hc hr => ?_⟩
      obtain ⟨g1, g2⟩ := h3 r hc hr
      obtain ⟨q1, q2, q3⟩ := hf r hc
      rw [hq] at g1
      obtain ⟨e1, g1⟩ := text_inj hv.1 q1 g1
      obtain ⟨e2, g1⟩ := text_inj hv.2.1 q2 g1
      obtain ⟨e3, g1⟩ := text_inj hv.2.2 q3 g1
      exact ⟨g1, g2, e1.symm, e2.symm, e3.symm⟩
theorem Cur.no {pay pre : List Int} {bad : Bool} {d : List Int} {tl : RecX → List Int} {Q : RecX → Prop} (h : Cur pay pre bad d tl Q) (hq : bad = false → ∀ r, Canon r → pay = recB r → d = tl r → Q r → False) : NoRec pay := by
  rcases h with ⟨_, h⟩ | ⟨h1, h2, h3⟩
  · exact h
  · rintro ⟨r, hc, hr⟩
    obtain ⟨g1, g2⟩ := h3 r hc hr
    exact hq h1 r hc hr g1 g2
theorem Cur.bad {pay pre : List Int} {d : List Int} {tl : RecX → List Int} {Q : RecX → Prop} (h : Cur pay pre true d tl Q) : NoRec pay := h.no fun h => by cases h

/-! ### The check at the end -/
theorem word4_of {a b c d : Int} (ha : IsByte a) (hb : IsByte b) (hc : IsByte c) (hd : IsByte d) : word4 (a + b * 256 + c * 65536 + d * 16777216) = [a, b, c, d] := by
  obtain ⟨a1, a2⟩ := ha
  obtain ⟨b1, b2⟩ := hb
  obtain ⟨c1, c2⟩ := hc
  obtain ⟨d1, d2⟩ := hd
  generalize hw : a + b * 256 + c * 65536 + d * 16777216 = w
  have h : 0 ≤ w ∧ w < 4294967296 := by omega
  have s1 : shr8 w = w / 256 := shr_u64 w h.1 8 (by decide)
  have s2 : shr8 (w / 256) = w / 256 / 256 := shr_u64 _ (by omega) 8 (by decide)
  have s3 : shr8 (w / 256 / 256) = w / 256 / 256 / 256 := shr_u64 _ (by omega) 8 (by decide)
  unfold word4
  rw [s1, s2, s3]
  simp only [IntKind.wrap_u8']
  have e1 : w % 256 = a := by omega
  have e2 : w / 256 % 256 = b := by omega
  have e3 : w / 256 / 256 % 256 = c := by omega
  have e4 : w / 256 / 256 / 256 % 256 = d := by omega
  rw [e1, e2, e3, e4]
theorem of_word4 {w : Int} (h : 0 ≤ w ∧ w < 4294967296) : (word4 w).getD 0 0 + (word4 w).getD 1 0 * 256 + (word4 w).getD 2 0 * 65536 + (word4 w).getD 3 0 * 16777216 = w := by
  have s1 : shr8 w = w / 256 := shr_u64 w h.1 8 (by decide)
  have s2 : shr8 (w / 256) = w / 256 / 256 := shr_u64 _ (by omega) 8 (by decide)
  have s3 : shr8 (w / 256 / 256) = w / 256 / 256 / 256 := shr_u64 _ (by omega) 8 (by decide)
  unfold word4
  rw [s1, s2, s3]
  simp only [IntKind.wrap_u8', List.getD_cons_zero, List.getD_cons_succ]
  omega
theorem word4_len (w : Int) : (word4 w).length = 4 := rfl
theorem of_list {l : List Int} (hl : l.length = 4) (hb : ∀ b ∈ l, IsByte b) : l = word4 (l.getD 0 0 + l.getD 1 0 * 256 + l.getD 2 0 * 65536 + l.getD 3 0 * 16777216) := by
  match l, hl with
  | [a, b, c, d], _ =>
    simp only [List.getD_cons_zero, List.getD_cons_succ]
    rw [word4_of (hb a (by simp)) (hb b (by simp)) (hb c (by simp)) (hb d (by simp))]
theorem split4 {d a : List Int} {w : Int} {k : Nat} (hk : d.length = k + 4) (h : d = a ++ word4 w) : d.take k = a ∧ d.drop k = word4 w := by
  have hl : a.length = k := by
    have := congrArg List.length h
    simp only [List.length_append, word4_len] at this
    omega
  rw [h]
  exact ⟨by rw [List.take_append_of_le_length (by omega), List.take_of_length_le (by omega)], by rw [List.drop_append_of_le_length (by omega), List.drop_of_length_le (by omega)]; rfl⟩

theorem bytesOf_strOf : ∀ (d : List Int), (∀ b ∈ d, IsByte b) → bytesOf (strOf d) = d := by
  intro d hd
  have key : ∀ (d : List Int) (acc : ByteArray), (∀ b ∈ d, IsByte b) → bytesOf (d.foldl (fun r n => r.push (UInt8.ofNat n.toNat)) acc) = bytesOf acc ++ d := by
    intro d
    induction d with
    | nil => intro acc _; simp
    | cons b r ih =>
      intro acc h
      rw [List.foldl_cons, ih _ fun c hc => h c (List.mem_cons_of_mem _ hc)]
      obtain ⟨h1, h2⟩ := h b List.mem_cons_self
      have : bytesOf (acc.push (UInt8.ofNat b.toNat)) = bytesOf acc ++ [b] := by
        simp only [bytesOf, ByteArray.data_push, Array.toList_push, List.map_append, List.map_cons, List.map_nil]
        congr 2
        simp only [UInt8.toNat_ofNat']
        omega
      rw [this, List.append_assoc]
      rfl
  exact key d ByteArray.empty hd
theorem strOf_size (d : List Int) : (strOf d).size = d.length := by
  have key : ∀ (d : List Int) (acc : ByteArray), (d.foldl (fun r n => r.push (UInt8.ofNat n.toNat)) acc).size = acc.size + d.length := by
    intro d
    induction d with
    | nil => intro acc; simp
    | cons b r ih => intro acc; rw [List.foldl_cons, ih]; simp [ByteArray.size_push]; omega
  have := key d ByteArray.empty
  unfold strOf
  rw [this]
  simp

/-! ### Events -/
theorem evsB_append (a b : List Ev) : evsB (a ++ b) = evsB a ++ evsB b := by
  induction a with
  | nil => rfl
  | cons e r ih => simp only [List.cons_append, evsB, ih, List.append_assoc]
theorem evsCells_append (a b : List Ev) : evsCells (a ++ b) = evsCells a ++ evsCells b := by
  induction a with
  | nil => rfl
  | cons e r ih => simp only [List.cons_append, evsCells, ih, List.append_assoc]
theorem EvsSame.append : ∀ {a b c d : List Ev}, EvsSame a b → EvsSame c d → EvsSame (a ++ c) (b ++ d)
  | [], [], _, _, _, h => h
  | _ :: _, _ :: _, _, _, ⟨h1, h2⟩, h => ⟨h1, h2.append h⟩
theorem ParSem.next {g : ParG} {i : Int} {p : Option Addr} {l c : Nat} {d : List Int} {es : List Ev} {G : Nat → Option Obj} (h : ParSem g i p l c d false es G) (hi : i < g.n) {y : EvRY} (hy : REvPost ⟨p, l, c, d, false, G⟩ y) :
    ParSem g (i + 1) y.p y.l y.c y.d y.bad (es ++ [y.e]) y.G := by
  obtain ⟨y1, y2, y3, y4, y5, y6⟩ := hy
  have y3 : y.l ≤ l := y3
  have y5 : y.e.l ≤ l := y5
  have h0 := h.hi
  have hl := h.hl
  have hu := h.used rfl
  have hxl := h.head.l
  rcases h.sem with ⟨h1, _⟩ | ⟨_, s1, s2, s3⟩
  · cases h1
  refine ⟨h.head, h.sub.trans y1, y2, fun e he => ?_, by simp; omega, by omega, by omega, fun hb => ?_, by simp; omega, ?_⟩
  · rcases List.mem_append.1 he with he | he
    · exact ⟨(h.evs e he).1.mono y1, (h.evs e he).2⟩
    · rw [List.mem_singleton.1 he]; exact ⟨y4, by omega⟩
  · rcases y6 with ⟨q, _⟩ | ⟨_, _, q⟩
    · rw [hb] at q; cases q
    · have q : d = evB y.e ++ y.d := q
      have := congrArg List.length q
      have hd := h.bs.len
      have hyd := y2.len
      have he := evB_len y.e
      simp only [List.length_append, List.length_cons, List.length_nil] at this ⊢
      omega
  · rcases y6 with ⟨q1, q2⟩ | ⟨q1, q2, q3⟩
    · refine .inl ⟨q1, fun ⟨r, hc, hr⟩ => ?_⟩
      rcases q2 with q2 | q2
      · cases q2
      · obtain ⟨_, t2⟩ := s3 r hc hr
        obtain ⟨n1, n2⟩ := h.head.cur.elim (fun h => by cases h.1) fun h => h.2.2 r hc hr
        obtain ⟨_, _, _, _, _, _, n3⟩ := n2
        have hel := hc.el
        have hlt : es.length < r.evs.length := by omega
        rw [List.drop_eq_getElem_cons hlt] at t2
        obtain ⟨k1, k2, k3⟩ := hc.ev _ (List.getElem_mem hlt)
        exact q2 ⟨r.evs[es.length], _, k1, k2, k3, t2⟩
    · have q3 : d = evB y.e ++ y.d := q3
      have q1 : y.bad = false := q1
      refine .inr ⟨q1, fun e he => ?_, ?_, fun r hc hr => ?_⟩
      · rcases List.mem_append.1 he with he | he
        · exact s1 e he
        · rw [List.mem_singleton.1 he]; exact q2
      · rw [s2, q3, evsB_append]; simp [evsB]
      · obtain ⟨t1, t2⟩ := s3 r hc hr
        obtain ⟨n1, n2⟩ := h.head.cur.elim (fun h => by cases h.1) fun h => h.2.2 r hc hr
        obtain ⟨_, _, _, _, _, _, n3⟩ := n2
        have hel := hc.el
        have hlt : es.length < r.evs.length := by omega
        rw [List.drop_eq_getElem_cons hlt, q3] at t2
        obtain ⟨k1, k2, k3⟩ := hc.ev _ (List.getElem_mem hlt)
        have hyl := y4.d.len
        obtain ⟨u1, u2⟩ := ev_inj ⟨q2, y4.a, by omega⟩ ⟨k1, k2, k3⟩ t2
        have e1 : (es ++ [y.e]).length = es.length + 1 := by simp
        rw [e1]
        refine ⟨?_, u2⟩
        rw [take_succ' _ _ hlt]
        exact t1.append ⟨u1, trivial⟩
end Sw
end
section
/- save.Parse, the sum and the comparison of bytes that stay do what is said. -/
namespace Sw
set_option maxRecDepth 100000
open Go Go.Proofs Vx

theorem sumG_ok : conSumG.Vc body44G := by
  rw [sumG_vc]
  intro x hx
  obtain ⟨hb, hl⟩ := (hx : Bs x.G x.p x.l x.c x.d ∧ x.l ≤ 1000000)
  have hlen := hb.len
  refine ⟨x, ⟨0, 2166136261⟩, rfl, rfl, rfl, rfl, rfl, rfl, Sub.refl _, ⟨⟨Nat.zero_le _, rfl⟩, hb, hl⟩, ?_⟩
  intro y hy d
  obtain ⟨⟨h1, h2⟩, _⟩ := (hy : (y.i ≤ x.l ∧ y.w = sumB (x.d.take y.i)) ∧ Bs x.G x.p x.l x.c x.d ∧ x.l ≤ 1000000)
  refine ⟨fun hb' => ?_, fun hb' => ?_⟩
  · have hb' := of_decide_eq_true hb'
    have hi : y.i < x.l := by omega
    have hid : y.i < x.d.length := by omega
    obtain ⟨b, o, e1, e2, e3⟩ := hb.nth hi
    have e : ((y.i : Int).toNat * 1) = y.i := by omega
    refine ⟨by omega, fun _ => ⟨b, o, e1, _, by rw [e]; exact e2, fun r hr r1 hr1 r2 hr2 r3 hr3 r4 hr4 => ?_⟩⟩
    refine ⟨⟨y.i + 1, r3⟩, ⟨⟨hi, ?_⟩, hb, hl⟩, ?_, rfl, rfl, rfl, rfl, ?_, rfl, Sub.refl _, trivial⟩
    · show r3 = sumB (x.d.take (y.i + 1))
      rw [take_succ' _ _ hid, sumB, List.foldl_append]
      have h2 : y.w = List.foldl stepB 2166136261 (x.d.take y.i) := h2
      rw [← h2]
      show r3 = stepB y.w x.d[y.i]
      rw [getD_eq _ _ _ hid] at hr
      rw [hr3, hr2, hr1, hr]; rfl
    · show x.l - (y.i + 1) < x.l - y.i
      omega
    · rw [hr4, w64 _ (by omega) (by omega)]; rfl
  · have hb' := of_decide_eq_false hb'
    refine ⟨y.w, ?_, rfl, Sub.refl _, trivial⟩
    show y.w = sumB x.d
    have hi : y.i = x.d.length := by omega
    rw [h2, hi, List.take_length]
theorem spec44G : SpecOk Tryz.prog 44 conSumG.spec :=
  Con.sound (body_ok (fun f => noSpec_ok _ f) (fun _ => (famL_ok sumGL _).ok) (fun vs w => Tryz.call44 vs w)) sumG_ok

theorem cmpG_ok : conCmpG.Vc body13G := by
  rw [cmpG_vc]
  intro x hx
  obtain ⟨hb1, hb2, hl⟩ := (hx : CmpGPre x)
  have n1 := hb1.len
  have n2 := hb2.len
  refine ⟨fun hb => ?_, fun hb => ?_⟩
  · have hne : x.l ≠ x.l2 := by have := bne_iff_ne.1 hb; omega
    refine ⟨false, ?_, rfl, Sub.refl _, trivial⟩
    show false = decide (x.d = x.d2)
    exact (decide_eq_false fun h => hne (by rw [← n1, ← n2, h])).symm
  · have he : x.l = x.l2 := Int.ofNat.inj (by simpa using hb)
    refine ⟨x, 0, rfl, rfl, rfl, rfl, rfl, rfl, rfl, Sub.refl _, ⟨⟨Nat.zero_le _, he, rfl⟩, hb1, hb2, hl⟩, ?_⟩
    intro i hi d
    obtain ⟨⟨g1, g2, g3⟩, _⟩ := (hi : (i ≤ x.l ∧ x.l = x.l2 ∧ x.d.take i = x.d2.take i) ∧ CmpGPre x)
    refine ⟨fun hb => ?_, fun hb => ?_⟩
    · have hb := of_decide_eq_true hb
      have l1 : i < x.d.length := by omega
      have l2 : i < x.d2.length := by omega
      have e : ((i : Int).toNat * 1) = i := by omega
      obtain ⟨b, o, a1, a2, _⟩ := hb1.nth (i := i) (by omega)
      obtain ⟨b', o', c1, c2, _⟩ := hb2.nth (i := i) (by omega)
      refine ⟨by omega, fun _ => ⟨b, o, a1, _, by rw [e]; exact a2, by omega, fun _ => ⟨b', o', c1, _, by rw [e]; exact c2, ?_⟩⟩⟩
      rw [getD_eq _ _ _ l1, getD_eq _ _ _ l2]
      refine ⟨fun hb => ?_, fun hb r hr => ?_⟩
      · have hne : x.d[i] ≠ x.d2[i] := by simpa using hb
        refine ⟨false, ?_, rfl, Sub.refl _, trivial⟩
        show false = decide (x.d = x.d2)
        refine (decide_eq_false fun h => hne ?_).symm
        exact List.getElem_of_eq h l1
      · have heq : x.d[i] = x.d2[i] := by simpa using hb
        refine ⟨i + 1, ⟨⟨by show i + 1 ≤ x.l; omega, g2, ?_⟩, hb1, hb2, hl⟩, ?_, rfl, rfl, rfl, rfl, rfl, rfl, ?_, Sub.refl _, trivial⟩
        · show x.d.take (i + 1) = x.d2.take (i + 1)
          rw [take_succ' _ _ l1, take_succ' _ _ l2, g3, heq]
        · show x.l - (i + 1) < x.l - i
          omega
        · rw [hr, w64 _ (by omega) (by omega)]; rfl
    · have hb := of_decide_eq_false hb
      refine ⟨true, ?_, rfl, Sub.refl _, trivial⟩
      show true = decide (x.d = x.d2)
      refine (decide_eq_true ?_).symm
      have e1 : i = x.d.length := by omega
      have e2 : i = x.d2.length := by omega
      have q1 : x.d.take i = x.d := by rw [e1, List.take_length]
      have q2 : x.d2.take i = x.d2 := by rw [e2, List.take_length]
      rw [← q1, ← q2]; exact g3
theorem spec13G : SpecOk Tryz.prog 13 conCmpG.spec :=
  Con.sound (body_ok (fun f => noSpec_ok _ f) (fun _ => (famL_ok cmpGL _).ok) (fun vs w => Tryz.call13 vs w)) cmpG_ok

/-- The record that is told where there is none. -/
def zeroRec (G : Nat → Option Obj) : RecX := ⟨0, 0, false, none, 0, 0, [], none, 0, 0, [], ByteArray.empty, none, 0, 0, [], G⟩
theorem u0 : IsU64 0 := ⟨by decide, by decide⟩
theorem zeroRec_ok (G : Nat → Option Obj) : RecOk (zeroRec G) :=
  ⟨u0, u0, bs_nil G, bs_nil G, rfl, .inl ⟨rfl, rfl⟩, fun e he => (by cases he), (by decide : (0 : Nat) < 9223372036854775808), (by decide : (0 : Nat) < 9223372036854775808)⟩
theorem err_end (x : BsX) (G : Nat → Option Obj) (hG : Sub x.G G) (h : ¬ ∃ r, Canon r ∧ x.d = recB r ++ word4 (sumB (recB r))) :
    ∃ (y : Sw.ParY), Sw.conParse.post x y ∧ y.r.ram = (0 : Int) ∧ y.r.sec = (0 : Int) ∧ y.r.locked = Bool.false ∧ y.r.dp = Option.none ∧ y.r.dl = (0 : Nat) ∧ y.r.dc = (0 : Nat) ∧ y.r.ip = Option.none ∧ y.r.il = (0 : Nat) ∧ y.r.ic = (0 : Nat) ∧ y.r.name = { data := #[] } ∧ y.r.ep = Option.none ∧ y.r.el = (0 : Nat) ∧ y.r.ec = (0 : Nat) ∧ y.err = (250 : Int) ∧ Vx.Sub (Sw.conParse.G' x y) G ∧ True :=
  ⟨⟨zeroRec G, 250⟩, ⟨hG, zeroRec_ok G, ⟨Nat.zero_le _, Nat.zero_le _, Nat.zero_le _, Nat.zero_le _, fun e he => (by cases he)⟩, .inr ⟨rfl, rfl, rfl, h⟩⟩, rfl, rfl, rfl, rfl, rfl, rfl, rfl, rfl, rfl, rfl, rfl, rfl, rfl, rfl, Sub.refl _, trivial⟩

theorem RText.next {x : RdrX} (hl : x.l ≤ 1000000) {y : TextRY} (h : RTextPost x y) : RdrOk ⟨y.p, y.l, y.c, y.d, y.bad, y.G⟩ := by
  obtain ⟨_, k1, k2, _⟩ := h
  exact ⟨k1, by show y.l ≤ 1000000; omega⟩
theorem hasText_of3 {d : List Int} (h : HasText3 d) : HasText d := by
  obtain ⟨a, b, c, rest, h1, h2, h3, h4⟩ := h
  exact ⟨a, _, h1, h4⟩
/-- Three texts, one behind the other. -/
theorem three {x : RdrX} (hl : x.l ≤ 1000000) {y1 y2 y3 : TextRY} (h1 : RTextPost x y1) (h2 : RTextPost ⟨y1.p, y1.l, y1.c, y1.d, y1.bad, y1.G⟩ y2) (h3 : RTextPost ⟨y2.p, y2.l, y2.c, y2.d, y2.bad, y2.G⟩ y3) :
    P9Post x ⟨y3.p, y3.l, y3.c, y3.d, y3.bad, y1.tp, y1.tl, y1.tc, y1.td, y2.tp, y2.tl, y2.tc, y2.td, strOf y3.td, y3.G⟩ := by
  obtain ⟨a1, a2, a3, a4, a5, a6⟩ := h1
  obtain ⟨b1, b2, b3, b4, b5, b6⟩ := h2
  obtain ⟨c1, c2, c3, c4, c5, c6⟩ := h3
  have b3 : y2.l ≤ y1.l := b3
  have c3 : y3.l ≤ y2.l := c3
  have b5 : y2.tl ≤ y1.l := b5
  have c5 : y3.tl ≤ y2.l := c5
  have b1 : Sub y1.G y2.G := b1
  have c1 : Sub y2.G y3.G := c1
  have hn : bytesOf (strOf y3.td) = y3.td := bytesOf_strOf _ c4.byte
  have hsz := strOf_size y3.td
  have hlen := c4.len
  refine ⟨(a1.trans b1).trans c1, c2, by show y3.l ≤ x.l; omega, a4.mono (b1.trans c1), a5, b4.mono c1, by show y2.tl ≤ x.l; omega, by show (strOf y3.td).size ≤ x.l; omega, ?_⟩
  show (y3.bad = true ∧ (x.bad = true ∨ ¬ HasText3 x.d)) ∨ (y3.bad = x.bad ∧ x.d = textB y1.td ++ (textB y2.td ++ (textB (bytesOf (strOf y3.td)) ++ y3.d)))
  rw [hn]
  have t1 := a4.len
  have t2 := b4.len
  rcases c6 with ⟨c6, c7⟩ | ⟨c6, c7⟩
  · refine .inl ⟨c6, ?_⟩
    by_cases hx : x.bad = true
    · exact .inl hx
    · refine .inr fun ⟨p, q, r, rest, p1, q1, r1, e⟩ => ?_
      rcases a6 with ⟨_, a7 | a7⟩ | ⟨a6, a7⟩
      · exact hx a7
      · exact a7 ⟨p, _, p1, e⟩
      · rw [a7] at e
        obtain ⟨_, e⟩ := text_inj (by omega) p1 e
        rcases b6 with ⟨_, b7 | b7⟩ | ⟨b6, b7⟩
        · exact hx (a6 ▸ b7)
        · exact b7 ⟨q, _, q1, e⟩
        · have b7 : y1.d = textB y2.td ++ y2.d := b7
          rw [b7] at e
          obtain ⟨_, e⟩ := text_inj (by omega) q1 e
          rcases c7 with c7 | c7
          · have b6 : y2.bad = y1.bad := b6
            have c7 : y2.bad = true := c7
            exact hx (by rw [← a6, ← b6, c7])
          · exact c7 ⟨r, rest, r1, e⟩
  · have c6 : y3.bad = y2.bad := c6
    have c7 : y2.d = textB y3.td ++ y3.d := c7
    rcases b6 with ⟨b6, b7⟩ | ⟨b6, b7⟩
    · refine .inl ⟨by rw [c6]; exact b6, ?_⟩
      by_cases hx : x.bad = true
      · exact .inl hx
      · refine .inr fun ⟨p, q, r, rest, p1, q1, r1, e⟩ => ?_
        rcases a6 with ⟨_, a7 | a7⟩ | ⟨a6, a7⟩
        · exact hx a7
        · exact a7 ⟨p, _, p1, e⟩
        · rw [a7] at e
          obtain ⟨_, e⟩ := text_inj (by omega) p1 e
          rcases b7 with b7 | b7
          · exact hx (a6 ▸ b7)
          · exact b7 ⟨q, _, q1, e⟩
    · have b6 : y2.bad = y1.bad := b6
      have b7 : y1.d = textB y2.td ++ y2.d := b7
      rcases a6 with ⟨a6, a7⟩ | ⟨a6, a7⟩
      · refine .inl ⟨by rw [c6, b6]; exact a6, ?_⟩
        rcases a7 with a7 | a7
        · exact .inl a7
        · exact .inr fun h => a7 (hasText_of3 h)
      · exact .inr ⟨by rw [c6, b6, a6], by rw [a7, b7, c7]⟩

theorem RNumPost.hp {x : RdrX} {y : NumY} (h : RNumPost x y) : (y.bad = true ∧ (x.bad = true ∨ ¬ HasNum x.d)) ∨ (y.bad = x.bad ∧ x.d = numB 10 y.v.toNat ++ y.d) := h.2.2.2
theorem evsSame_full {es : List Ev} {r : RecX} {n : Nat} (h : EvsSame es (r.evs.take n)) (hn : r.evs.length = n) : EvsSame es r.evs := by
  rwa [← hn, List.take_length] at h
theorem EvsSame.len : ∀ {a b : List Ev}, EvsSame a b → a.length = b.length
  | [], [], _ => rfl
  | _ :: _, _ :: _, ⟨_, h⟩ => by simp [h.len]
theorem bytesOf_inj {a b : ByteArray} (h : bytesOf a = bytesOf b) : a = b := by
  have key : ∀ l m : List UInt8, (l.map fun b => (b.toNat : Int)) = (m.map fun b => (b.toNat : Int)) → l = m := by
    intro l
    induction l with
    | nil => intro m h; cases m with
      | nil => rfl
      | cons y m => simp at h
    | cons x l ih => intro m h; cases m with
      | nil => simp at h
      | cons y m =>
        simp only [List.map_cons, List.cons.injEq] at h
        obtain ⟨h1, h2⟩ := h
        have : x = y := UInt8.toNat_inj.1 (by omega)
        rw [this, ih m h2]
  exact ByteArray.ext (Array.ext' (key _ _ h))
/-- Where all events are read: the record is whole. -/
theorem ParSem.done {g : ParG} {i : Int} {p : Option Addr} {l c : Nat} {d : List Int} {es : List Ev} {G : Nat → Option Obj} (h : ParSem g i p l c d false es G) (hi : ¬ i < g.n) (hl : l = 0) (hlk : g.lk ≤ 1) (ep : Option Addr) (ec : Nat) :
    ZPost g.x { g.r with ep := ep, el := es.length, ec := ec, evs := es, G := G } := by
  have hh := h.head
  have h0 := h.hi
  have hle := h.le
  have hn : g.n.toNat = es.length := by omega
  have hd : d = [] := List.eq_nil_of_length_eq_zero (by rw [h.bs.len]; exact hl)
  rcases h.sem with ⟨h1, _⟩ | ⟨_, s1, s2, s3⟩
  · cases h1
  have hu := h.used rfl
  have hxl := hh.l
  have hnm := hh.small
  have hpay : g.pre ++ g.d = recB { g.r with ep := ep, el := es.length, ec := ec, evs := es, G := G } := by
    rw [hh.pre hlk, s2, hd, hn, List.append_nil]
    rfl
  refine ⟨hh.sub.trans h.sub, ⟨hh.ram, hh.sec, hh.disk.mono h.sub, hh.image.mono h.sub, rfl, fun e he => (h.evs e he).1, ?_, ?_⟩, ⟨hnm.1, hnm.2.1, hnm.2.2, ?_, fun e he => (h.evs e he).2⟩, s1, ?_, fun s hs he => ?_⟩
  · show g.r.name.size < _
    omega
  · show es.length < _
    omega
  · show es.length ≤ g.x.l
    omega
  · rw [← hpay]; exact hh.sum
  · rw [← hpay] at he
    obtain ⟨t1, t2⟩ := s3 s hs he
    obtain ⟨n1, n2⟩ := hh.cur.elim (fun h => by cases h.1) fun h => h.2.2 s hs he
    obtain ⟨m1, m2, m3, m4, m5, m6, m7⟩ := n2
    have hel := hs.el
    have hname : g.r.name = s.name := (bytesOf_inj m6).symm
    refine ⟨m1.symm, m2.symm, ?_, m4.symm, m5.symm, hname, ?_, evsSame_full t1 (by omega)⟩
    · have hL := hh.locked
      show g.r.locked = s.locked
      rw [hL, ← m3]
      cases s.locked <;> rfl
    · show es.length = s.el
      omega

theorem parse_ok : conParse.VcAlt frzPar body17 := by
  rw [parse_vc]
  intro x hx
  obtain ⟨hb, hl⟩ := (hx : Bs x.G x.p x.l x.c x.d ∧ x.l ≤ 30000)
  have hlen := hb.len
  have hcap := hb.cap
  refine ⟨fun h4 => .inl (err_end x x.G (Sub.refl _) fun ⟨r, _, hr⟩ => ?_), fun h4 r hr => ⟨hcap, fun _ => ?_⟩⟩
  · have h4 := of_decide_eq_true h4
    have := congrArg List.length hr
    simp only [List.length_append, word4_len] at this
    omega
  have h4 := of_decide_eq_false h4
  obtain ⟨k, hk⟩ : ∃ k, x.l = k + 4 := ⟨x.l - 4, by omega⟩
  have er : r = (k : Int) := by rw [hr, w64 _ (by omega) (by omega)]; omega
  refine ⟨by omega, fun _ a ha r1 hr1 => ⟨hcap, fun _ => ?_⟩⟩
  have er1 : r1 = (k : Int) := by rw [hr1, w64 _ (by omega) (by omega)]; omega
  refine ⟨by omega, fun _ a1 ha1 => ?_⟩
  have := a0_eq ha1
  subst this
  have hrk : r.toNat = k := by omega
  have ha' : a = if x.c = k then x.p else x.p.map fun y => y.add k := by rw [ha, hrk, Nat.mul_one]
  have hb4 := hb.drop (k := k) (by omega) ha'
  have hbk := hb.take (k := k) (by omega)
  refine ⟨⟨a, x.l - k, x.c - k, x.d.drop k, x.G⟩, rfl, by rw [hrk], by rw [hrk], Sub.refl _, ⟨hb4, by show x.l - k = 4; omega⟩, fun y hy => ?_⟩
  refine ⟨⟨x.p, k, x.c, x.d.take k, x.G⟩, rfl, by show k = r1.toNat - 0; omega, by simp, Sub.refl _, ⟨hbk, by show k ≤ 1000000; omega⟩, fun y1 hy1 => ?_⟩
  have hy : y = (x.d.drop k).getD 0 0 + (x.d.drop k).getD 1 0 * 256 + (x.d.drop k).getD 2 0 * 65536 + (x.d.drop k).getD 3 0 * 16777216 := hy
  have hy1 : y1 = sumB (x.d.take k) := hy1
  obtain ⟨se1, se2⟩ := sum_eq hbk.byte
  -- a record's bytes are those ahead of the last four
  have pays : ∀ r, x.d = recB r ++ word4 (sumB (recB r)) → x.d.take k = recB r ∧ x.d.drop k = word4 (sumB (x.d.take k)) := fun r hr => by
    obtain ⟨g1, g2⟩ := split4 (k := k) (by omega) hr
    exact ⟨g1, by rw [g2, g1]⟩
  have none : NoRec (x.d.take k) → ¬ ∃ r, Canon r ∧ x.d = recB r ++ word4 (sumB (recB r)) := fun h ⟨r, hc, hr⟩ => h ⟨r, hc, (pays r hr).1⟩
  refine ⟨fun hne => .inl (err_end x x.G (Sub.refl _) fun ⟨r, _, hr⟩ => ?_), fun heq r hr => ⟨hcap, fun _ => ?_⟩⟩
  · obtain ⟨g1, g2⟩ := pays r hr
    have : y = y1 := by
      rw [hy, hy1, g2, of_word4]
      rw [se1]; exact se2
    rw [this] at hne
    simp at hne
  have heq : y = y1 := by simpa using heq
  have hsum : x.d = x.d.take k ++ word4 (sumB (x.d.take k)) := by
    have := of_list (l := x.d.drop k) (by simp; omega) hb4.byte
    rw [← hy, heq, hy1] at this
    rw [← this, List.take_append_drop]
  have er : r = (k : Int) := by rw [hr, w64 _ (by omega) (by omega)]; omega
  refine ⟨by omega, fun _ a2 ha2 => ?_⟩
  have := a0_eq ha2
  subst this
  have hR : RdrOk ⟨x.p, k, x.c, x.d.take k, false, x.G⟩ := ⟨hbk, by show k ≤ 1000000; omega⟩
  refine ⟨⟨x.p, k, x.c, x.d.take k, false, x.G⟩, rfl, by show k = r.toNat - 0; omega, by simp, rfl, Sub.refl _, hR, fun n1 hn1 => ?_⟩
  have hn1 : RNumPost ⟨x.p, k, x.c, x.d.take k, false, x.G⟩ n1 := hn1
  have c1 := ((Cur.start (x.d.take k)).as recB_eq).num (f := fun _ => 478443366774) (fun _ _ => by decide) (by have := hn1.2.2.1; unfold IsU64 at this; omega : n1.v.toNat < 18446744073709551616) hn1.hp
  have l1 : n1.l ≤ k := hn1.2.1
  refine ⟨fun hne => .inl (err_end x x.G (Sub.refl _) (none (c1.no fun _ r _ _ _ q => ?_))), fun hmag => ?_⟩
  · have q := q.2
    have := hn1.2.2.1.1
    have : n1.v = 478443366774 := by omega
    rw [this] at hne
    exact absurd hne (by decide)
  have hmag : n1.v = 478443366774 := by simpa using hmag
  have R1 := RdrOk.next (x := ⟨x.p, k, x.c, x.d.take k, false, x.G⟩) (by show k ≤ 1000000; omega) hn1
  refine ⟨⟨n1.p, n1.l, n1.c, n1.d, n1.bad, x.G⟩, rfl, rfl, rfl, rfl, Sub.refl _, R1, fun n2 hn2 => ?_⟩
  have hn2 : RNumPost ⟨n1.p, n1.l, n1.c, n1.d, n1.bad, x.G⟩ n2 := hn2
  have c2 := c1.num (f := fun r => r.ram.toNat) (fun r hc => by have := hc.ram; unfold IsU64 at this; omega) (by have := hn2.2.2.1; unfold IsU64 at this; omega : n2.v.toNat < 18446744073709551616) hn2.hp
  have l2 : n2.l ≤ n1.l := hn2.2.1
  have R2 := RdrOk.next (x := ⟨n1.p, n1.l, n1.c, n1.d, n1.bad, x.G⟩) (by show n1.l ≤ 1000000; omega) hn2
  refine ⟨⟨n2.p, n2.l, n2.c, n2.d, n2.bad, x.G⟩, rfl, rfl, rfl, rfl, Sub.refl _, R2, fun n3 hn3 => ?_⟩
  have hn3 : RNumPost ⟨n2.p, n2.l, n2.c, n2.d, n2.bad, x.G⟩ n3 := hn3
  have c3 := c2.num (f := fun r => r.sec.toNat) (fun r hc => by have := hc.sec; unfold IsU64 at this; omega) (by have := hn3.2.2.1; unfold IsU64 at this; omega : n3.v.toNat < 18446744073709551616) hn3.hp
  have l3 : n3.l ≤ n2.l := hn3.2.1
  have R3 := RdrOk.next (x := ⟨n2.p, n2.l, n2.c, n2.d, n2.bad, x.G⟩) (by show n2.l ≤ 1000000; omega) hn3
  refine ⟨⟨n3.p, n3.l, n3.c, n3.d, n3.bad, x.G⟩, rfl, rfl, rfl, rfl, Sub.refl _, R3, fun n4 hn4 => ?_⟩
  have hn4 : RNumPost ⟨n3.p, n3.l, n3.c, n3.d, n3.bad, x.G⟩ n4 := hn4
  have c4 := c3.num (f := fun r => cond r.locked 1 0) (fun r hc => by cases r.locked <;> decide) (by have := hn4.2.2.1; unfold IsU64 at this; omega : n4.v.toNat < 18446744073709551616) hn4.hp
  have l4 : n4.l ≤ n3.l := hn4.2.1
  have R4 := RdrOk.next (x := ⟨n3.p, n3.l, n3.c, n3.d, n3.bad, x.G⟩) (by show n3.l ≤ 1000000; omega) hn4
  refine ⟨⟨⟨n4.p, n4.l, n4.c, n4.d, n4.bad, x.G⟩, n2.v, n3.v, (n4.v == (1 : Int)), n4.v⟩, rfl, rfl, rfl, rfl, rfl, rfl, rfl, rfl, rfl, Sub.refl _, R4, fun d => ?_, fun t ht d => ?_⟩
  · -- the three texts
    refine ⟨⟨n4.p, n4.l, n4.c, n4.d, n4.bad, x.G⟩, rfl, rfl, rfl, rfl, Sub.refl _, R4, fun t1 ht1 => ?_⟩
    have m4 : n4.l ≤ 1000000 := by omega
    have S1 := RText.next (x := ⟨n4.p, n4.l, n4.c, n4.d, n4.bad, x.G⟩) m4 ht1
    have m5 : t1.l ≤ 1000000 := S1.2
    refine ⟨⟨t1.p, t1.l, t1.c, t1.d, t1.bad, t1.G⟩, rfl, rfl, rfl, rfl, Sub.refl _, S1, fun t2 ht2 => ?_⟩
    have S2 := RText.next (x := ⟨t1.p, t1.l, t1.c, t1.d, t1.bad, t1.G⟩) m5 ht2
    have m6 : t2.l ≤ 1000000 := S2.2
    refine ⟨⟨t2.p, t2.l, t2.c, t2.d, t2.bad, t2.G⟩, rfl, rfl, rfl, rfl, Sub.refl _, S2, fun t3 ht3 => ?_⟩
    have hp := three (x := ⟨n4.p, n4.l, n4.c, n4.d, n4.bad, x.G⟩) m4 ht1 ht2 ht3
    obtain ⟨_, _, _, q4, _, _⟩ := (ht3 : RTextPost ⟨t2.p, t2.l, t2.c, t2.d, t2.bad, t2.G⟩ t3)
    refine ⟨⟨t3.td, q4.len, q4.at_, fun r hr => ?_⟩, ⟨t3.td, q4.len, q4.at_, fun r hr => ?_⟩, ⟨t3.td, q4.len, q4.at_, fun r hr => ?_⟩⟩ <;>
      exact ⟨⟨t3.p, t3.l, t3.c, t3.d, t3.bad, t1.tp, t1.tl, t1.tc, t1.td, t2.tp, t2.tl, t2.tc, t2.td, strOf t3.td, t3.G⟩, hp, rfl, rfl, rfl, rfl, rfl, rfl, rfl, rfl, rfl, rfl, rfl, rfl, rfl, rfl, hr.symm, Sub.refl _, trivial⟩
  have ht : P9Post ⟨n4.p, n4.l, n4.c, n4.d, n4.bad, x.G⟩ t := ht
  obtain ⟨p1, p2, p3, p4, p5, p6, p7, p8, p9⟩ := ht
  have p1 : Sub x.G t.G := p1
  have p3 : t.l ≤ n4.l := p3
  have p5 : t.dl ≤ n4.l := p5
  have p7 : t.il ≤ n4.l := p7
  have p8 : t.name.size ≤ n4.l := p8
  have hdl := p4.len
  have hil := p6.len
  have hnl := bytesOf_len t.name
  have c5 := c4.text3 (f := fun r => r.dd) (g := fun r => r.id) (k := fun r => bytesOf r.name) (fun r hc => ⟨hc.dd, hc.id, hc.name⟩) (a := t.dd) (b := t.id) (c := bytesOf t.name) (by omega) p9
  have hR5 : RdrOk ⟨t.p, t.l, t.c, t.d, t.bad, t.G⟩ := ⟨p2, by show t.l ≤ 1000000; omega⟩
  refine ⟨⟨t.p, t.l, t.c, t.d, t.bad, t.G⟩, rfl, rfl, rfl, rfl, Sub.refl _, hR5, fun n hn => ?_⟩
  have hn : RNumPost ⟨t.p, t.l, t.c, t.d, t.bad, t.G⟩ n := hn
  have c6 := c5.num (f := fun r => r.el) (fun r hc => hc.el.2) (by have := hn.2.2.1; unfold IsU64 at this; omega : n.v.toNat < 18446744073709551616) hn.hp
  have l6 : n.l ≤ t.l := hn.2.1
  have hnu := hn.2.2.1
  have hn4u := hn4.2.2.1
  obtain ⟨hnu0, hnu1⟩ := id hnu
  obtain ⟨hn40, hn41⟩ := id hn4u
  -- ends without a record
  have bad6 : ∀ {G : Nat → Option Obj}, Sub x.G G → NoRec (x.d.take k) → _ := fun {G} hG h => err_end x G hG (none h)
  let R : RecX := ⟨n2.v, n3.v, (n4.v == (1 : Int)), t.dp, t.dl, t.dc, t.dd, t.ip, t.il, t.ic, t.id, t.name, Option.none, 0, 0, [], t.G⟩
  -- ahead of the first event
  have head : n.bad = false → ∃ g : ParG, g.x = x ∧ g.r = R ∧ g.n = n.v ∧ g.lk = n4.v ∧ g.pre ++ g.d = x.d.take k ∧ ParSem g 0 n.p n.l n.c n.d false [] t.G := by
    intro hgood
    rcases c6 with ⟨h, _⟩ | ⟨_, h2, h3⟩
    · rw [hgood] at h; cases h
    · have hm : (478443366774 : Nat) = n1.v.toNat := by omega
      refine ⟨⟨x, _, n.d, n.v, n4.v, R⟩, rfl, rfl, rfl, rfl, h2.symm, ?_⟩
      have hk6 : ∀ s, Canon s → x.d.take k = recB s → n.d = evsB s.evs ∧ s.ram = n2.v ∧ s.sec = n3.v ∧ (cond s.locked 1 0 : Int) = n4.v ∧ s.dd = t.dd ∧ s.id = t.id ∧ bytesOf s.name = bytesOf t.name ∧ (s.el : Int) = n.v := by
        intro s hs he
        obtain ⟨q0, ⟨⟨⟨⟨⟨_, _⟩, q2⟩, q3⟩, q4⟩, q5, q6, q7⟩, q8⟩ := h3 s hs he
        have e1 := hs.ram.1
        have e2 := hs.sec.1
        have e3 := hn2.2.2.1.1
        have e4 := hn3.2.2.1.1
        refine ⟨q0, by omega, by omega, ?_, q5, q6, q7, by omega⟩
        cases hL : s.locked <;> rw [hL] at q4 <;> simp only [cond_true, cond_false] at q4 ⊢ <;> omega
      refine ⟨⟨p1, by omega, hn2.2.2.1, hn3.2.2.1, p4, p6, ⟨by show t.dl ≤ x.l; omega, by show t.il ≤ x.l; omega, by show t.name.size ≤ x.l; omega⟩, hnu, rfl, hn4u, fun hlk => ?_, ?_, ?_⟩, Sub.refl _, hn.1, fun e he => (by cases he), rfl, hnu0, by show n.l ≤ x.l; omega, fun _ => by show n.l + 3 * 0 ≤ x.l; omega, Nat.zero_le _, ?_⟩
      · have hlk : n4.v ≤ 1 := hlk
        have e4 : n4.v.toNat = cond (n4.v == (1 : Int)) 1 0 := by
          have : n4.v = 0 ∨ n4.v = 1 := by omega
          rcases this with h | h <;> rw [h] <;> rfl
        show ((((([] ++ numB 10 n1.v.toNat) ++ numB 10 n2.v.toNat) ++ numB 10 n3.v.toNat) ++ numB 10 n4.v.toNat) ++ (textB t.dd ++ (textB t.id ++ textB (bytesOf t.name)))) ++ numB 10 n.v.toNat = _
        rw [← hm, e4]
        have : numB 10 478443366774 = [246, 210, 201, 171, 246, 13] := by decide +kernel
        rw [this]
        simp only [headB, List.append_assoc, List.nil_append]
        rfl
      · show x.d = _
        rw [← h2]; exact hsum
      · refine .inr ⟨rfl, rfl, fun s hs he => ?_⟩
        rw [← h2] at he
        exact hk6 s hs he
      · refine .inr ⟨rfl, fun e he => (by cases he), rfl, fun s hs he => ?_⟩
        rw [← h2] at he
        exact ⟨trivial, (hk6 s hs he).1⟩
  refine ⟨fun hpos => ⟨fun hgood => ?_, fun hbad => ?_⟩, fun hpos => ?_⟩
  · have hpos := of_decide_eq_true hpos
    have hgood : n.bad = false := by simpa using hgood
    obtain ⟨g, g1, g2, g3, g4, g5, hS⟩ := head hgood
    have hRn : RdrOk ⟨n.p, n.l, n.c, n.d, n.bad, t.G⟩ := ⟨hn.1, by show n.l ≤ 1000000; omega⟩
    refine ⟨⟨n.p, n.l, n.c, n.d, n.bad, t.G⟩, rfl, rfl, rfl, rfl, Sub.refl _, hRn, fun v hv c vs hc hvs hone => ?_⟩
    have hv : REvPost ⟨n.p, n.l, n.c, n.d, n.bad, t.G⟩ v := hv
    rw [hgood] at hv
    have hS1 := hS.next (by rw [g3]; exact hpos) hv
    have hgR : g.r = R := g2
    have hgG : g.r.G = t.G := by rw [hgR]
    refine ⟨g, ⟨1, v.p, v.l, v.c, v.d, v.bad, [v.e], c, vs, v.G⟩, g4, g3, rfl, rfl, rfl, rfl, rfl, by rw [hgR], by rw [hgR], by rw [hgR], by rw [hgR], by rw [hgR], by rw [hgR], by rw [hgR], by rw [hgR], by rw [hgR], by rw [hgR], rfl, rfl, rfl, rfl, rfl, hvs, Sub.refl _, ⟨hS1, hone, hc, ?_⟩, ?_⟩
    · show c * 3 = 3 * 1 + vs.length
      omega
    intro z hz d
    obtain ⟨zs, zc, ze, zq⟩ := (hz : ParInv g z)
    have hxG : Sub x.G z.G := by
      have := zs.head.sub.trans zs.sub
      rwa [g1] at this
    have zfew := zs.few
    have zlk : g.lk = n4.v := g4
    -- behind the last event
    have fin : ¬ (z.i < g.n ∧ z.bad = false) → (z.bad = true → NoRec (x.d.take k)) ∧ (z.bad = false → (0 < z.l ∨ 1 < g.lk) → NoRec (x.d.take k)) := by
      intro hex
      refine ⟨fun hb => ?_, fun hb hor => ?_⟩
      · rcases zs.sem with ⟨_, h⟩ | ⟨h, _⟩
        · rw [g5] at h; exact h
        · rw [hb] at h; cases h
      · rcases zs.sem with ⟨h, _⟩ | ⟨_, _, _, s3⟩
        · rw [hb] at h; cases h
        · rintro ⟨s, hs, he⟩
          rw [← g5] at he
          obtain ⟨_, t2⟩ := s3 s hs he
          obtain ⟨_, n2⟩ := zs.head.cur.elim (fun h => by cases h.1) fun h => h.2.2 s hs he
          obtain ⟨_, _, m3, _, _, _, m7⟩ := n2
          have hel := hs.el
          have hii := zs.hi
          have hle := zs.le
          have hni : ¬ z.i < g.n := fun h => hex ⟨h, hb⟩
          rcases hor with hor | hor
          · rw [List.drop_of_length_le (by omega)] at t2
            have := zs.bs.len
            rw [t2] at this
            simp only [evsB, List.length_nil] at this
            omega
          · cases hL : s.locked <;> rw [hL] at m3 <;> simp only [cond_true, cond_false] at m3 <;> omega
    have ok : ¬ (z.i < g.n ∧ z.bad = false) → z.bad = false → z.l = 0 → g.lk ≤ 1 → ZPost x { g.r with ep := Option.none, el := z.es.length, ec := z.ec, evs := z.es, G := z.G } := by
      intro hex hb h0 h1
      have zs' := zs
      rw [hb] at zs'
      have := zs'.done (fun h => hex ⟨h, hb⟩) h0 h1 Option.none z.ec
      rwa [g1] at this
    have two : ¬ (z.i < g.n ∧ z.bad = false) → _ := fun hex => And.intro (fin hex) (ok hex)
    refine ⟨fun hlt => ⟨fun hgd => ?_, fun hbd => ?_⟩, fun hge => ?_⟩
    · -- one more
      have hlt := of_decide_eq_true hlt
      have hgd : z.bad = false := by simpa using hgd
      have zl := zs.hl
      have gl := zs.head.l
      refine ⟨⟨z.p, z.l, z.c, z.d, z.bad, z.G⟩, rfl, rfl, rfl, rfl, Sub.refl _, ⟨zs.bs, by show z.l ≤ 1000000; omega⟩, fun v hv => ⟨rfl, rfl, rfl, rfl, by omega, fun _ => ⟨by omega, fun _ => ⟨by omega, fun _ => ⟨?_, fun _ => ⟨ze, fun _ c vs hc hvs hone r hr => ?_⟩⟩⟩⟩⟩⟩
      · omega
      · have hv : REvPost ⟨z.p, z.l, z.c, z.d, z.bad, z.G⟩ v := hv
        have zs' := zs
        rw [hgd] at hv zs'
        have hS2 := zs'.next hlt hv
        have hgn : g.n = n.v := g3
        have er : r = z.i + 1 := by
          have := zs.hi
          rw [hr, wu64]; omega
        refine ⟨⟨z.i + 1, v.p, v.l, v.c, v.d, v.bad, z.es ++ [v.e], c, vs, v.G⟩, ⟨hS2, hone, by simpa using hc, ?_⟩, ?_, rfl, rfl, er.symm, rfl, rfl, rfl, rfl, rfl, rfl, rfl, rfl, rfl, rfl, rfl, rfl, rfl, rfl, by simp, rfl, ?_, by simp; omega, rfl, hvs, Sub.refl _, trivial⟩
        · show c * 3 = 3 * (z.es ++ [v.e]).length + vs.length
          simp only [List.length_append, List.length_cons, List.length_nil]
          omega
        · show (g.n - (z.i + 1)).toNat < (g.n - z.i).toNat
          omega
        · show evsCells (z.es ++ [v.e]) = _
          rw [evsCells_append]
          rfl
    · have hbd : z.bad = true := by simpa using hbd
      refine ⟨fun _ => .inl (bad6 hxG (((two fun h => by rw [hbd] at h; cases h.2).1).1 hbd)), fun h => ?_⟩
      rw [hbd] at h; cases h
    · have hge := of_decide_eq_false hge
      have hex : ¬ (z.i < g.n ∧ z.bad = false) := fun h => hge h.1
      obtain ⟨⟨f1, f2⟩, f3⟩ := two hex
      refine ⟨fun hb => .inl (bad6 hxG (f1 hb)), fun hb => ⟨fun h0 => .inl (bad6 hxG (f2 hb (.inl (by have := of_decide_eq_true h0; omega)))), fun h0 => ⟨fun h1 => .inl (bad6 hxG (f2 hb (.inr (of_decide_eq_true h1)))), fun h1 => .inr ?_⟩⟩⟩
      have h0 := of_decide_eq_false h0
      have h1 := of_decide_eq_false h1
      exact ⟨⟨{ g.r with ep := Option.none, el := z.es.length, ec := z.ec, evs := z.es, G := z.G }, z.vs⟩, f3 hb (by omega) (by omega), rfl, rfl, rfl, rfl, rfl, rfl, rfl, rfl, rfl, rfl, rfl, rfl, rfl, rfl, rfl, rfl, Sub.refl _, trivial⟩
  · have hbad : n.bad = true := by simpa using hbad
    refine ⟨fun _ => .inl (bad6 p1 (by rw [hbad] at c6; exact c6.bad)), fun h => ?_⟩
    rw [hbad] at h; cases h
  · have hpos := of_decide_eq_false hpos
    refine ⟨fun hb => .inl (bad6 p1 (by rw [hb] at c6; exact c6.bad)), fun hb => ?_⟩
    obtain ⟨g, g1, g2, g3, g4, g5, hS⟩ := head hb
    have hn0 : n.v = 0 := by omega
    have no : (0 < n.l ∨ 1 < n4.v) → NoRec (x.d.take k) := by
      intro hor
      refine c6.no fun _ s hs _ hd q => ?_
      obtain ⟨⟨⟨⟨_, _⟩, q4⟩, _, _, _⟩, q8⟩ := q
      have hel := hs.el
      rcases hor with hor | hor
      · have : s.evs = [] := List.eq_nil_of_length_eq_zero (by omega)
        rw [this] at hd
        have hh := hn.1.len
        rw [hd] at hh
        simp only [evsB, List.length_nil] at hh
        omega
      · cases hL : s.locked <;> rw [hL] at q4 <;> simp only [cond_true, cond_false] at q4 <;> omega
    refine ⟨fun h0 => .inl (bad6 p1 (no (.inl (by have := of_decide_eq_true h0; omega)))), fun h0 => ⟨fun h1 => .inl (bad6 p1 (no (.inr (of_decide_eq_true h1)))), fun h1 => .inl ?_⟩⟩
    have h0 := of_decide_eq_false h0
    have h1 : ¬ (1 : Int) < n4.v := of_decide_eq_false h1
    have hz := hS.done (by rw [g3]; omega) (by omega) (by rw [g4]; omega) Option.none 0
    rw [g1, g2] at hz
    obtain ⟨z1, z2, z3, z4, z5, z6⟩ := hz
    refine ⟨⟨R, 0⟩, ⟨z1, ⟨z2.ram, z2.sec, z2.disk, z2.image, z2.evLen, .inl ⟨rfl, rfl⟩, z2.evs, z2.name, z2.evBig⟩, z3, .inl ⟨rfl, z4, z5, z6⟩⟩, rfl, rfl, rfl, rfl, rfl, rfl, rfl, rfl, rfl, rfl, rfl, rfl, rfl, rfl, Sub.refl _, trivial⟩
theorem call17_ok (f : Nat) : SpecOk Tryz.prog f (call17 f) := by
  unfold call17
  cases h1 : Nat.beq f 49
  · cases h2 : Nat.beq f 44
    · cases h3 : Nat.beq f 50
      · cases h4 : Nat.beq f 51
        · cases h5 : Nat.beq f 52
          · exact noSpec_ok _ f
          · have := beq_t h5
            subst this
            exact spec52
        · have := beq_t h4
          subst this
          exact spec51
      · have := beq_t h3
        subst this
        exact spec50
    · have := beq_t h2
      subst this
      exact spec44G
  · have := beq_t h1
    subst this
    exact spec49
theorem ways17_ok : WaysOk Tryz.prog ways17 := by
  refine ⟨fun _ => peel_ok (famL_ok parL _), fun i => ?_⟩
  show PieceOk Tryz.prog (bif Nat.beq i 9 then par9P.twin else fun bx => bx)
  cases Nat.beq i 9
  · exact PieceOk.id _
  · exact PieceS.ok _ _
theorem spec17 : SpecOk Tryz.prog 17 conParse.spec :=
  Con.soundAlt frzPar (bodyW_ok call17_ok ways17_ok (fun vs w => Tryz.call17 vs w)) parse_ok
end Sw
end
section
/- vireoref27.Same and Alike, the laws SaveBack and SaveParses: what they do. -/
namespace Sw
set_option maxRecDepth 100000
open Go Go.Proofs Vx

structure TwoEvs where
  p : Option Addr
  l : Nat
  c : Nat
  es : List Ev
  p2 : Option Addr
  l2 : Nat
  c2 : Nat
  es2 : List Ev
  G : Nat → Option Obj
structure EvsAt (G : Nat → Option Obj) (p : Option Addr) (l : Nat) (es : List Ev) : Prop where
  len : es.length = l
  at_ : RdS G p l (evsCells es)
  ok : ∀ e ∈ es, EvOk G e
  small : ∀ e ∈ es, e.l ≤ 1000000
  big : l < 9223372036854775808
def SamePre (x : TwoEvs) : Prop := EvsAt x.G x.p x.l x.es ∧ EvsAt x.G x.p2 x.l2 x.es2 ∧ EvsSame x.es x.es2
def sameL (g : TwoEvs) : LoopS where
  X := Nat
  f := 0
  m := 0
  tmps i := [(0, .gsl g.p (.v g.l) (.v g.c)), (1, .gsl g.p2 (.v g.l2) (.v g.c2)), (5, .int .i64 (.v i))]
  heap i := []
  G i := g.G
  inv i := i ≤ g.l ∧ SamePre g
  mea i := g.l - i
def conSame : Con where
  X := TwoEvs
  n := 0
  args x := [.gsl x.p (.v x.l) (.v x.c), .gsl x.p2 (.v x.l2) (.v x.c2)]
  heap _ := []
  G x := x.G
  pre x := SamePre x
  Y := Unit
  m := 0
  post _ _ := True
  res _ _ := .bool (.v true)
  heap' _ _ := []
  G' x _ := x.G
noncomputable def call53 (f : Nat) : SpecT := bif Nat.beq f 13 then conCmpG.spec else noSpec
noncomputable def body53 : SpecT := body call53 (fun _ => famL sameL) 53
structure TwoRec where
  r : RecX
  s : RecX
def AlikePre (x : TwoRec) : Prop := RecOk x.r ∧ RecOk x.s ∧ x.s.G = x.r.G ∧ RecSame x.r x.s ∧ x.r.dl ≤ 1000000 ∧ x.r.il ≤ 1000000 ∧ (∀ e ∈ x.r.evs, e.l ≤ 1000000) ∧ (∀ e ∈ x.s.evs, e.l ≤ 1000000)
def conAlike : Con where
  X := TwoRec
  n := 0
  args x := [.agg (recRow x.r), .agg (recRow x.s)]
  heap _ := []
  G x := x.r.G
  pre x := AlikePre x
  Y := Unit
  m := 0
  post _ _ := True
  res _ _ := .bool (.v true)
  heap' _ _ := []
  G' x _ := x.r.G
noncomputable def call18 (f : Nat) : SpecT := bif Nat.beq f 13 then conCmpG.spec else bif Nat.beq f 53 then conSame.spec else noSpec
noncomputable def body18 : SpecT := body call18 (fun _ bx => iter bx 0) 18
/-- The list that Bytes leaves, as one that stays. -/
def frzBytes : Frz conBytes where
  id := 0
  o _ y := obh .u8 5 y.xs y.vs
  rest _ _ := []
  res _ y a := .gsl (some ⟨a, 0, none⟩) (.v y.xs.length) (.v (y.xs.length + y.vs.length))
  obj _ y := .cells (y.xs.map (Value.int .u8) ++ y.vs).toArray 5 (0, 0)
  lo := Nat.le_refl _
  hi := Nat.lt_succ_self _
  heap _ _ := rfl
  other _ _ e he := by cases he
  den _ y ρ β := by simp [obh, SObj.ren, SV.ren, SObj.den, SV.vals, fzOf, IL.den]
  val _ y ρ β := by simp [conBytes, obs, SV.ren, SV.val, SV.vals, NE.den, Off.den]
  one _ _ _ := rfl
  wf _ _ _ _ _ := trivial
theorem spec14F : SpecOk Tryz.prog 14 (conBytes.frz frzBytes).spec :=
  Con.soundF frzBytes (bodyW_ok call14_ok ways14_ok (fun vs w => Tryz.call14 vs w)) bytes_ok
def conBack : Con where
  X := RecX
  n := 0
  args x := [.agg (recRow x)]
  heap x := []
  G x := x.G
  pre x := RecOk x
  Y := Nat → Option Obj
  m := 0
  post x y := Sub x.G y
  res _ _ := .bool (.v true)
  heap' _ _ := []
  G' _ y := y
noncomputable def call4 (f : Nat) : SpecT :=
  bif Nat.beq f 10 then conAwake.spec else
  bif Nat.beq f 11 then conFew.spec else
  bif Nat.beq f 12 then conKinds.spec else
  bif Nat.beq f 14 then (conBytes.frz frzBytes).spec else
  bif Nat.beq f 16 then body (fun _ => noSpec) (fun _ bx => iter bx 0) 16 else
  bif Nat.beq f 17 then conParse.spec else
  bif Nat.beq f 18 then conAlike.spec else noSpec
noncomputable def body4 : SpecT := body call4 (fun _ bx => iter bx 0) 4
def conParses : Con where
  X := BsX
  n := 0
  args x := [.gsl x.p (.v x.l) (.v x.c)]
  heap x := []
  G x := x.G
  pre x := Bs x.G x.p x.l x.c x.d ∧ x.l < 9223372036854775808
  Y := Nat → Option Obj
  m := 0
  post x y := Sub x.G y
  res _ _ := .bool (.v true)
  heap' _ _ := []
  G' _ y := y
noncomputable def call5 (f : Nat) : SpecT :=
  bif Nat.beq f 10 then conAwake.spec else
  bif Nat.beq f 12 then conKinds.spec else
  bif Nat.beq f 14 then (conBytes.frz frzBytes).spec else
  bif Nat.beq f 17 then conParse.spec else
  bif Nat.beq f 13 then conCmpG.spec else noSpec
noncomputable def body5 : SpecT := body call5 (fun _ bx => iter bx 0) 5
end Sw
end
section
/- What SwBack's conditions come to, word for word: made by a program. -/
set_option maxRecDepth 100000
set_option linter.unusedVariables false
namespace Sw
open Go Go.Proofs Vx
theorem same_vc : (conSame.Vc body53) = (
∀ (x : Sw.TwoEvs), Sw.conSame.pre x →
 (((↑x.l : Int) != (↑x.l2 : Int)) = Bool.true → ∃ (y : PUnit), Sw.conSame.post x y ∧ Bool.true = Bool.false ∧ Vx.Sub (Sw.conSame.G' x y) x.G ∧ True) ∧
 (((↑x.l : Int) != (↑x.l2 : Int)) = Bool.false →
 ∃ (g : Sw.TwoEvs), ∃ (x0 : Nat), g.p = x.p ∧
 g.l = x.l ∧
 g.c = x.c ∧
 g.p2 = x.p2 ∧
 g.l2 = x.l2 ∧
 g.c2 = x.c2 ∧
 (↑x0 : Int) = (0 : Int) ∧
 Vx.Sub ((Sw.sameL g).G x0) x.G ∧
 (Sw.sameL g).inv x0 ∧
 ∀ (x_1 : Nat), (Sw.sameL g).inv x_1 →
 ∀ (d : Nat → Go.Value), (Decidable.decide ((↑x_1 : Int) < (↑g.l : Int)) = Bool.true →
 ((0 : Int) ≤ (↑x_1 : Int) ∧ (↑x_1 : Int) < (↑g.l : Int)) ∧
 ((0 : Int) ≤ (↑x_1 : Int) ∧ (↑x_1 : Int) < (↑g.l : Int) →
 ∃ (b : Nat), ∃ (o : Nat), g.p = Option.some { block := b, off := o } ∧
 ∃ (x_2 : Int), Vx.Rd g.G b (o + (↑x_1 : Int).toNat * (3 : Nat) + (0 : Nat)) [Go.Value.int Go.IntKind.i64 x_2] ∧
 ((0 : Int) ≤ (↑x_1 : Int) ∧ (↑x_1 : Int) < (↑g.l2 : Int)) ∧
 ((0 : Int) ≤ (↑x_1 : Int) ∧ (↑x_1 : Int) < (↑g.l2 : Int) →
 ∃ (b : Nat), ∃ (o : Nat), g.p2 = Option.some { block := b, off := o } ∧
 ∃ (x_3 : Int), Vx.Rd g.G b (o + (↑x_1 : Int).toNat * (3 : Nat) + (0 : Nat))
 [Go.Value.int Go.IntKind.i64 x_3] ∧
 ((x_2 != x_3) = Bool.true →
 ∃ (y : PUnit), Sw.conSame.post x y ∧
 Bool.true = Bool.false ∧ Vx.Sub (Sw.conSame.G' x y) g.G ∧ True) ∧
 ((x_2 != x_3) = Bool.false →
 ((0 : Int) ≤ (↑x_1 : Int) ∧ (↑x_1 : Int) < (↑g.l : Int)) ∧
 ((0 : Int) ≤ (↑x_1 : Int) ∧ (↑x_1 : Int) < (↑g.l : Int) →
 ∃ (b : Nat), ∃ (o : Nat), g.p = Option.some { block := b, off := o } ∧
 ∃ (x_4 : Int), Vx.Rd g.G b (o + (↑x_1 : Int).toNat * (3 : Nat) + (1 : Nat))
 [Go.Value.int Go.IntKind.u64 x_4] ∧
 ((0 : Int) ≤ (↑x_1 : Int) ∧ (↑x_1 : Int) < (↑g.l2 : Int)) ∧
 ((0 : Int) ≤ (↑x_1 : Int) ∧ (↑x_1 : Int) < (↑g.l2 : Int) →
 ∃ (b : Nat), ∃ (o : Nat), g.p2 = Option.some { block := b, off := o } ∧
 ∃ (x_5 : Int), Vx.Rd g.G b (o + (↑x_1 : Int).toNat * (3 : Nat) + (1 : Nat))
 [Go.Value.int Go.IntKind.u64 x_5] ∧
 ((x_4 != x_5) = Bool.true →
 ∃ (y : PUnit), Sw.conSame.post x y ∧
 Bool.true = Bool.false ∧
 Vx.Sub (Sw.conSame.G' x y) g.G ∧ True) ∧
 ((x_4 != x_5) = Bool.false →
 ((0 : Int) ≤ (↑x_1 : Int) ∧
 (↑x_1 : Int) < (↑g.l : Int)) ∧
 ((0 : Int) ≤ (↑x_1 : Int) ∧
 (↑x_1 : Int) < (↑g.l : Int) →
 ∃ (b : Nat), ∃ (o : Nat), g.p = Option.some { block := b, off := o } ∧
 ∃ (a : Option Go.Addr), ∃ (l : Nat), ∃ (c : Nat), Vx.Rd g.G b
 (o +
 (↑x_1 : Int).toNat * (3 : Nat) +
 (2 : Nat))
 [Go.Value.slice a l c] ∧
 ((0 : Int) ≤ (↑x_1 : Int) ∧
 (↑x_1 : Int) < (↑g.l2 : Int)) ∧
 ((0 : Int) ≤ (↑x_1 : Int) ∧
 (↑x_1 : Int) < (↑g.l2 : Int) →
 ∃ (b : Nat), ∃ (o : Nat), g.p2 =
 Option.some
 { block := b, off := o } ∧
 ∃ (a_2 : Option Go.Addr), ∃ (l_1 : Nat), ∃ (c_1 : Nat), Vx.Rd g.G b
 (o +
 (↑x_1 :
 Int).toNat *
 (3 : Nat) +
 (2 : Nat))
 [Go.Value.slice
 a_2 l_1 c_1] ∧
 ∃ (x_6 : Sw.TwoBs), x_6.p = a ∧
 x_6.l = l ∧
 x_6.c = c ∧
 x_6.p2 =
 a_2 ∧
 x_6.l2 =
 l_1 ∧
 x_6.c2 =
 c_1 ∧
 Vx.Sub
 (Sw.conCmpG.G
 x_6)
 g.G ∧
 Sw.conCmpG.pre
 x_6 ∧
 ∀
 (y :
 Bool), Sw.conCmpG.post
 x_6
 y →
 ((!y) =
 Bool.true →
 ∃
 (y
 :
 PUnit), Sw.conSame.post
 x
 y ∧
 Bool.true =
 Bool.false ∧
 Vx.Sub
 (Sw.conSame.G'
 x
 y)
 x_6.G ∧
 True) ∧
 ((!y) =
 Bool.false →
 ∀
 (r :
 Int), r =
 Go.IntKind.i64.wrap
 ((↑x_1 :
 Int) +
 (1 :
 Int)) →
 ∃
 (x'
 :
 Nat), (Sw.sameL
 g).inv
 x' ∧
 (Sw.sameL
 g).mea
 x' <
 (Sw.sameL
 g).mea
 x_1 ∧
 g.p =
 g.p ∧
 g.l =
 g.l ∧
 g.c =
 g.c ∧
 g.p2 =
 g.p2 ∧
 g.l2 =
 g.l2 ∧
 g.c2 =
 g.c2 ∧
 (↑x' :
 Int) =
 r ∧
 Vx.Sub
 ((Sw.sameL
 g).G
 x')
 x_6.G ∧
 True)))))))))) ∧
 (Decidable.decide ((↑x_1 : Int) < (↑g.l : Int)) = Bool.false →
 ∃ (y : PUnit), Sw.conSame.post x y ∧ Bool.true = Bool.true ∧ Vx.Sub (Sw.conSame.G' x y) g.G ∧ True))) := by kernel_rfl
theorem alike_vc : (conAlike.Vc body18) = (
∀ (x : Sw.TwoRec), Sw.conAlike.pre x →
 ((x.r.ram == x.s.ram) = Bool.true →
 ((x.r.sec == x.s.sec) = Bool.true →
 ((bif Bool.false then !x.r.locked == x.s.locked else x.r.locked == x.s.locked) = Bool.true →
 ((x.r.name.toList == x.s.name.toList) = Bool.true →
 ∃ (x_1 : Sw.TwoBs), x_1.p = x.r.dp ∧
 x_1.l = x.r.dl ∧
 x_1.c = x.r.dc ∧
 x_1.p2 = x.s.dp ∧
 x_1.l2 = x.s.dl ∧
 x_1.c2 = x.s.dc ∧
 Vx.Sub (Sw.conCmpG.G x_1) x.r.G ∧
 Sw.conCmpG.pre x_1 ∧
 ∀ (y : Bool), Sw.conCmpG.post x_1 y →
 (y = Bool.true →
 ∃ (x_2 : Sw.TwoBs), x_2.p = x.r.ip ∧
 x_2.l = x.r.il ∧
 x_2.c = x.r.ic ∧
 x_2.p2 = x.s.ip ∧
 x_2.l2 = x.s.il ∧
 x_2.c2 = x.s.ic ∧
 Vx.Sub (Sw.conCmpG.G x_2) x_1.G ∧
 Sw.conCmpG.pre x_2 ∧
 ∀ (y : Bool), Sw.conCmpG.post x_2 y →
 (y = Bool.true →
 ∃ (x_3 : Sw.TwoEvs), x_3.p = x.r.ep ∧
 x_3.l = x.r.el ∧
 x_3.c = x.r.ec ∧
 x_3.p2 = x.s.ep ∧
 x_3.l2 = x.s.el ∧
 x_3.c2 = x.s.ec ∧
 Vx.Sub (Sw.conSame.G x_3) x_2.G ∧
 Sw.conSame.pre x_3 ∧
 ∀ (y : PUnit), Sw.conSame.post x_3 y →
 ∃ (y : PUnit), Sw.conAlike.post x y ∧
 Bool.true = Bool.true ∧
 Vx.Sub (Sw.conAlike.G' x y) x_3.G ∧ True) ∧
 (y = Bool.false →
 ∃ (y : PUnit), Sw.conAlike.post x y ∧
 Bool.true = Bool.false ∧ Vx.Sub (Sw.conAlike.G' x y) x_2.G ∧ True)) ∧
 (y = Bool.false →
 ∃ (y : PUnit), Sw.conAlike.post x y ∧ Bool.true = Bool.false ∧ Vx.Sub (Sw.conAlike.G' x y) x_1.G ∧ True)) ∧
 ((x.r.name.toList == x.s.name.toList) = Bool.false →
 ∃ (y : PUnit), Sw.conAlike.post x y ∧ Bool.true = Bool.false ∧ Vx.Sub (Sw.conAlike.G' x y) x.r.G ∧ True)) ∧
 ((bif Bool.false then !x.r.locked == x.s.locked else x.r.locked == x.s.locked) = Bool.false →
 ∃ (y : PUnit), Sw.conAlike.post x y ∧ Bool.true = Bool.false ∧ Vx.Sub (Sw.conAlike.G' x y) x.r.G ∧ True)) ∧
 ((x.r.sec == x.s.sec) = Bool.false → ∃ (y : PUnit), Sw.conAlike.post x y ∧ Bool.true = Bool.false ∧ Vx.Sub (Sw.conAlike.G' x y) x.r.G ∧ True)) ∧
 ((x.r.ram == x.s.ram) = Bool.false → ∃ (y : PUnit), Sw.conAlike.post x y ∧ Bool.true = Bool.false ∧ Vx.Sub (Sw.conAlike.G' x y) x.r.G ∧ True)) := by kernel_rfl
theorem back_vc : (conBack.Vc body4) = (
∀ (x : Sw.RecX), Sw.conBack.pre x →
 ∃ (x_1 : Sw.GX), Vx.Sub (Sw.conAwake.G x_1) x.G ∧
 Sw.conAwake.pre x_1 ∧
 ∀ (y : PUnit), Sw.conAwake.post x_1 y →
 ∃ (x_2 : Sw.RecX), x_2.ram = x.ram ∧
 x_2.sec = x.sec ∧
 x_2.locked = x.locked ∧
 x_2.dp = x.dp ∧
 x_2.dl = x.dl ∧
 x_2.dc = x.dc ∧
 x_2.ip = x.ip ∧
 x_2.il = x.il ∧
 x_2.ic = x.ic ∧
 x_2.name = x.name ∧
 x_2.ep = x.ep ∧
 x_2.el = x.el ∧
 x_2.ec = x.ec ∧
 Vx.Sub (Sw.conFew.G x_2) x_1.G ∧
 Sw.conFew.pre x_2 ∧
 ∀ (y : Bool), Sw.conFew.post x_2 y →
 ((!y) = Bool.true →
 ∃ (y : Nat → Option Go.Obj), Sw.conBack.post x y ∧ Bool.true = Bool.true ∧ Vx.Sub (Sw.conBack.G' x y) x_2.G ∧ True) ∧
 ((!y) = Bool.false →
 ∃ (x_3 : Sw.RecX), x_3.ram = x.ram ∧
 x_3.sec = x.sec ∧
 x_3.locked = x.locked ∧
 x_3.dp = x.dp ∧
 x_3.dl = x.dl ∧
 x_3.dc = x.dc ∧
 x_3.ip = x.ip ∧
 x_3.il = x.il ∧
 x_3.ic = x.ic ∧
 x_3.name = x.name ∧
 x_3.ep = x.ep ∧
 x_3.el = x.el ∧
 x_3.ec = x.ec ∧
 Vx.Sub (Sw.conKinds.G x_3) x_2.G ∧
 Sw.conKinds.pre x_3 ∧
 ∀ (y : Bool), Sw.conKinds.post x_3 y →
 ((!y) = Bool.true →
 ∃ (y : Nat → Option Go.Obj), Sw.conBack.post x y ∧
 Bool.true = Bool.true ∧
 Vx.Sub (Sw.conBack.G' x y) x_3.G ∧ True) ∧
 ((!y) = Bool.false →
 ∃ (x_4 : Sw.RecX), x_4.ram = x.ram ∧
 x_4.sec = x.sec ∧
 x_4.locked = x.locked ∧
 x_4.dp = x.dp ∧
 x_4.dl = x.dl ∧
 x_4.dc = x.dc ∧
 x_4.ip = x.ip ∧
 x_4.il = x.il ∧
 x_4.ic = x.ic ∧
 x_4.name = x.name ∧
 x_4.ep = x.ep ∧
 x_4.el = x.el ∧
 x_4.ec = x.ec ∧
 Vx.Sub
 ((Sw.conBytes.frz Sw.frzBytes).G
 x_4)
 x_3.G ∧
 (Sw.conBytes.frz Sw.frzBytes).pre
 x_4 ∧
 ∀ (y : Sw.conBytes.Y × Nat), (Sw.conBytes.frz
 Sw.frzBytes).post
 x_4 y →
 ∃ (x_5 : Sw.BsX), x_5.p =
 Option.some
 { block := y.snd, off := (0 : Nat) } ∧
 x_5.l = y.fst.xs.length ∧
 x_5.c =
 y.fst.xs.length +
 y.fst.vs.length ∧
 (Vx.Sub
 (Sw.conParse.G
 x_5)
 fun (b : Nat) =>
 if b = y.snd then
 Option.some
 (Sw.frzBytes.obj
 x_4 y.fst)
 else
 Sw.conBytes.G'
 x_4 y.fst b) ∧
 Sw.conParse.pre
 x_5 ∧
 ∀ (y : Sw.ParY), Sw.conParse.post
 x_5 y →
 ((y.err ==
 (0 :
 Int)) =
 Bool.true →
 x.ram =
 x.ram ∧
 x.sec =
 x.sec ∧
 x.locked =
 x.locked ∧
 x.dp =
 x.dp ∧
 x.dl =
 x.dl ∧
 x.dc =
 x.dc ∧
 x.ip =
 x.ip ∧
 x.il =
 x.il ∧
 x.ic =
 x.ic ∧
 x.name =
 x.name ∧
 x.ep =
 x.ep ∧
 x.el =
 x.el ∧
 x.ec =
 x.ec ∧
 ∃
 (x_6
 :
 Sw.TwoRec), x_6.r.ram =
 y.r.ram ∧
 x_6.r.sec =
 y.r.sec ∧
 x_6.r.locked =
 y.r.locked ∧
 x_6.r.dp =
 y.r.dp ∧
 x_6.r.dl =
 y.r.dl ∧
 x_6.r.dc =
 y.r.dc ∧
 x_6.r.ip =
 y.r.ip ∧
 x_6.r.il =
 y.r.il ∧
 x_6.r.ic =
 y.r.ic ∧
 x_6.r.name =
 y.r.name ∧
 x_6.r.ep =
 y.r.ep ∧
 x_6.r.el =
 y.r.el ∧
 x_6.r.ec =
 y.r.ec ∧
 x_6.s.ram =
 x.ram ∧
 x_6.s.sec =
 x.sec ∧
 x_6.s.locked =
 x.locked ∧
 x_6.s.dp =
 x.dp ∧
 x_6.s.dl =
 x.dl ∧
 x_6.s.dc =
 x.dc ∧
 x_6.s.ip =
 x.ip ∧
 x_6.s.il =
 x.il ∧
 x_6.s.ic =
 x.ic ∧
 x_6.s.name =
 x.name ∧
 x_6.s.ep =
 x.ep ∧
 x_6.s.el =
 x.el ∧
 x_6.s.ec =
 x.ec ∧
 Vx.Sub
 (Sw.conAlike.G
 x_6)
 y.r.G ∧
 Sw.conAlike.pre
 x_6 ∧
 ∀
 (y :
 PUnit), Sw.conAlike.post
 x_6
 y →
 ∃
 (y
 :
 Nat →
 Option
 Go.Obj), Sw.conBack.post
 x
 y ∧
 Bool.true =
 Bool.true ∧
 Vx.Sub
 (Sw.conBack.G'
 x
 y)
 x_6.r.G ∧
 True) ∧
 ((y.err ==
 (0 :
 Int)) =
 Bool.false →
 ∃ (y_1 :
 Nat →
 Option
 Go.Obj), Sw.conBack.post
 x
 y_1 ∧
 Bool.true =
 Bool.false ∧
 Vx.Sub
 (Sw.conBack.G'
 x
 y_1)
 y.r.G ∧
 True)))) := by kernel_rfl
theorem parses_vc : (conParses.Vc body5) = (
∀ (x : Sw.BsX), Sw.conParses.pre x →
 ∃ (x_1 : Sw.GX), Vx.Sub (Sw.conAwake.G x_1) x.G ∧
 Sw.conAwake.pre x_1 ∧
 ∀ (y : PUnit), Sw.conAwake.post x_1 y →
 (Decidable.decide ((↑x.l : Int) > (3000 : Int)) = Bool.true →
 ∃ (y : Nat → Option Go.Obj), Sw.conParses.post x y ∧ Bool.true = Bool.true ∧ Vx.Sub (Sw.conParses.G' x y) x_1.G ∧ True) ∧
 (Decidable.decide ((↑x.l : Int) > (3000 : Int)) = Bool.false →
 ∃ (x_2 : Sw.BsX), x_2.p = x.p ∧
 x_2.l = x.l ∧
 x_2.c = x.c ∧
 Vx.Sub (Sw.conParse.G x_2) x_1.G ∧
 Sw.conParse.pre x_2 ∧
 ∀ (y : Sw.ParY), Sw.conParse.post x_2 y →
 ((y.err != (0 : Int)) = Bool.true →
 ((y.err == (250 : Int)) = Bool.true →
 (((↑y.r.el : Int) == (0 : Int)) = Bool.true →
 ∃ (y_1 : Nat → Option Go.Obj), Sw.conParses.post x y_1 ∧ Bool.true = (y.r.ram == (0 : Int)) ∧ Vx.Sub (Sw.conParses.G' x y_1) y.r.G ∧ True) ∧
 (((↑y.r.el : Int) == (0 : Int)) = Bool.false →
 ∃ (y_1 : Nat → Option Go.Obj), Sw.conParses.post x y_1 ∧ Bool.true = Bool.false ∧ Vx.Sub (Sw.conParses.G' x y_1) y.r.G ∧ True)) ∧
 ((y.err == (250 : Int)) = Bool.false →
 ∃ (y_1 : Nat → Option Go.Obj), Sw.conParses.post x y_1 ∧ Bool.true = Bool.false ∧ Vx.Sub (Sw.conParses.G' x y_1) y.r.G ∧ True)) ∧
 ((y.err != (0 : Int)) = Bool.false →
 ∃ (x_3 : Sw.RecX), x_3.ram = y.r.ram ∧
 x_3.sec = y.r.sec ∧
 x_3.locked = y.r.locked ∧
 x_3.dp = y.r.dp ∧
 x_3.dl = y.r.dl ∧
 x_3.dc = y.r.dc ∧
 x_3.ip = y.r.ip ∧
 x_3.il = y.r.il ∧
 x_3.ic = y.r.ic ∧
 x_3.name = y.r.name ∧
 x_3.ep = y.r.ep ∧
 x_3.el = y.r.el ∧
 x_3.ec = y.r.ec ∧
 Vx.Sub (Sw.conKinds.G x_3) y.r.G ∧
 Sw.conKinds.pre x_3 ∧
 ∀ (y_1 : Bool), Sw.conKinds.post x_3 y_1 →
 (y_1 = Bool.true →
 ∃ (x_4 : Sw.RecX), x_4.ram = y.r.ram ∧
 x_4.sec = y.r.sec ∧
 x_4.locked = y.r.locked ∧
 x_4.dp = y.r.dp ∧
 x_4.dl = y.r.dl ∧
 x_4.dc = y.r.dc ∧
 x_4.ip = y.r.ip ∧
 x_4.il = y.r.il ∧
 x_4.ic = y.r.ic ∧
 x_4.name = y.r.name ∧
 x_4.ep = y.r.ep ∧
 x_4.el = y.r.el ∧
 x_4.ec = y.r.ec ∧
 Vx.Sub ((Sw.conBytes.frz Sw.frzBytes).G x_4) x_3.G ∧
 (Sw.conBytes.frz Sw.frzBytes).pre x_4 ∧
 ∀ (y : Sw.conBytes.Y × Nat), (Sw.conBytes.frz Sw.frzBytes).post x_4 y →
 ∃ (x_5 : Sw.TwoBs), x_5.p =
 Option.some
 { block := y.snd, off := (0 : Nat) } ∧
 x_5.l = y.fst.xs.length ∧
 x_5.c =
 y.fst.xs.length + y.fst.vs.length ∧
 x_5.p2 = x.p ∧
 x_5.l2 = x.l ∧
 x_5.c2 = x.c ∧
 (Vx.Sub (Sw.conCmpG.G x_5)
 fun (b : Nat) =>
 if b = y.snd then
 Option.some
 (Sw.frzBytes.obj x_4
 y.fst)
 else
 Sw.conBytes.G' x_4 y.fst
 b) ∧
 Sw.conCmpG.pre x_5 ∧
 ∀ (y : Bool), Sw.conCmpG.post x_5 y →
 ∃ (y_2 :
 Nat → Option Go.Obj), Sw.conParses.post x
 y_2 ∧
 Bool.true = y ∧
 Vx.Sub
 (Sw.conParses.G'
 x y_2)
 x_5.G ∧
 True) ∧
 (y_1 = Bool.false →
 ∃ (y : Nat → Option Go.Obj), Sw.conParses.post x y ∧
 Bool.true = Bool.false ∧ Vx.Sub (Sw.conParses.G' x y) x_3.G ∧ True)))) := by kernel_rfl
end Sw
end
section
/- vireoref27.Same and Alike, the laws SaveBack and SaveParses do what is said. -/
namespace Sw
set_option maxRecDepth 100000
open Go Go.Proofs Vx

theorem evs_at {G : Nat → Option Obj} {p : Option Addr} {l : Nat} {es : List Ev} (h : EvsAt G p l es) {i : Nat} (hi : i < l) : ∃ b o, p = some ⟨b, o, none⟩ ∧ ∃ e, es[i]? = some e ∧ EvOk G e ∧ e.l ≤ 1000000 ∧
    Rd G b (o + i * 3 + 0) [.int .i64 e.k] ∧ Rd G b (o + i * 3 + 1) [.int .u64 e.a] ∧ Rd G b (o + i * 3 + 2) [.slice e.p e.l e.c] := by
  have hl : i < es.length := by rw [h.len]; exact hi
  rcases h.at_ with ⟨h0, _⟩ | ⟨b, o, h1, h2⟩
  · omega
  · obtain ⟨pre, post, h3, h4⟩ := evsCells_split es i hl
    have h5 := Rd.part h2 h3
    rw [h4] at h5
    exact ⟨b, o, h1, es[i], List.getElem?_eq_getElem hl, h.ok _ (List.getElem_mem hl), h.small _ (List.getElem_mem hl),
      Rd.part (pre := []) (mid := [.int .i64 es[i].k]) (post := [.int .u64 es[i].a, .slice es[i].p es[i].l es[i].c]) h5 rfl,
      Rd.part (pre := [.int .i64 es[i].k]) (mid := [.int .u64 es[i].a]) (post := [.slice es[i].p es[i].l es[i].c]) h5 rfl,
      Rd.part (pre := [.int .i64 es[i].k, .int .u64 es[i].a]) (mid := [.slice es[i].p es[i].l es[i].c]) (post := []) h5 rfl⟩
theorem EvsSame.nth : ∀ {a b : List Ev}, EvsSame a b → ∀ (i : Nat) (e f : Ev), a[i]? = some e → b[i]? = some f → EvSame e f
  | [], [], _, i, _, _, h, _ => by simp at h
  | x :: a, y :: b, ⟨h1, h2⟩, i, e, f, he, hf => by
    cases i with
    | zero => simp at he hf; subst he; subst hf; exact h1
    | succ i => simp at he hf; exact h2.nth i e f he hf
theorem same_ok : conSame.Vc body53 := by
  rw [same_vc]
  intro x hx
  obtain ⟨h1, h2, h3⟩ := (hx : SamePre x)
  have hlen := h3.len
  have n1 := h1.len
  have n2 := h2.len
  have hbig := h1.big
  refine ⟨fun hne => ?_, fun _ => ?_⟩
  · have : (x.l : Int) = x.l2 := by omega
    rw [this] at hne
    simp at hne
  refine ⟨x, 0, rfl, rfl, rfl, rfl, rfl, rfl, rfl, Sub.refl _, ⟨Nat.zero_le _, h1, h2, h3⟩, fun i hi d => ?_⟩
  obtain ⟨hi, _⟩ := (hi : i ≤ x.l ∧ SamePre x)
  refine ⟨fun hlt => ?_, fun _ => ⟨(), trivial, rfl, Sub.refl _, trivial⟩⟩
  have hlt := of_decide_eq_true hlt
  obtain ⟨b, o, a1, e, a2, a3, a4, a5, a6, a7⟩ := evs_at h1 (i := i) (by omega)
  obtain ⟨b', o', c1, f, c2, c3, c4, c5, c6, c7⟩ := evs_at h2 (i := i) (by omega)
  obtain ⟨s1, s2, s3⟩ := h3.nth i e f a2 c2
  refine ⟨by omega, fun _ => ⟨b, o, a1, e.k, a5, by omega, fun _ => ⟨b', o', c1, f.k, c5, fun h => ?_, fun _ => ⟨by omega, fun _ => ⟨b, o, a1, e.a, a6, by omega, fun _ => ⟨b', o', c1, f.a, c6, fun h => ?_, fun _ =>
    ⟨by omega, fun _ => ⟨b, o, a1, e.p, e.l, e.c, a7, by omega, fun _ => ⟨b', o', c1, f.p, f.l, f.c, c7, ⟨e.p, e.l, e.c, e.d, f.p, f.l, f.c, f.d, x.G⟩, rfl, rfl, rfl, rfl, rfl, rfl, Sub.refl _, ⟨a3.d, c3.d, a4⟩, fun y hy => ⟨fun h => ?_, fun _ r hr => ?_⟩⟩⟩⟩⟩⟩⟩⟩⟩⟩
  · rw [s1] at h; simp at h
  · rw [s2] at h; simp at h
  · have hy : y = decide (e.d = f.d) := hy
    rw [hy, s3] at h; simp at h
  · refine ⟨i + 1, ⟨by show i + 1 ≤ x.l; omega, h1, h2, h3⟩, ?_, rfl, rfl, rfl, rfl, rfl, rfl, ?_, Sub.refl _, trivial⟩
    · show x.l - (i + 1) < x.l - i
      omega
    · rw [hr, w64 _ (by omega) (by omega)]; rfl
theorem call53_ok (f : Nat) : SpecOk Tryz.prog f (call53 f) := by
  unfold call53
  cases h1 : Nat.beq f 13
  · exact noSpec_ok _ f
  · have := beq_t h1
    subst this
    exact spec13G
theorem spec53 : SpecOk Tryz.prog 53 conSame.spec :=
  Con.sound (body_ok call53_ok (fun _ => (famL_ok sameL _).ok) (fun vs w => Tryz.call53 vs w)) same_ok

theorem RecOk.evsAt {r : RecX} (h : RecOk r) (hs : ∀ e ∈ r.evs, e.l ≤ 1000000) : EvsAt r.G r.ep r.el r.evs := ⟨h.evLen, h.evAt, h.evs, hs, h.evBig⟩
theorem alike_ok : conAlike.Vc body18 := by
  rw [alike_vc]
  intro x hx
  obtain ⟨h1, h2, hG, hs, d1, d2, d3, d4⟩ := (hx : AlikePre x)
  refine ⟨fun _ => ⟨fun _ => ⟨fun _ => ⟨fun _ => ?_, fun h => ?_⟩, fun h => ?_⟩, fun h => ?_⟩, fun h => ?_⟩
  · refine ⟨⟨x.r.dp, x.r.dl, x.r.dc, x.r.dd, x.s.dp, x.s.dl, x.s.dc, x.s.dd, x.r.G⟩, rfl, rfl, rfl, rfl, rfl, rfl, Sub.refl _, ⟨h1.disk, hG ▸ h2.disk, d1⟩, fun y hy => ⟨fun _ => ?_, fun h => ?_⟩⟩
    · refine ⟨⟨x.r.ip, x.r.il, x.r.ic, x.r.id, x.s.ip, x.s.il, x.s.ic, x.s.id, x.r.G⟩, rfl, rfl, rfl, rfl, rfl, rfl, Sub.refl _, ⟨h1.image, hG ▸ h2.image, d2⟩, fun y hy => ⟨fun _ => ?_, fun h => ?_⟩⟩
      · exact ⟨⟨x.r.ep, x.r.el, x.r.ec, x.r.evs, x.s.ep, x.s.el, x.s.ec, x.s.evs, x.r.G⟩, rfl, rfl, rfl, rfl, rfl, rfl, Sub.refl _, ⟨h1.evsAt d3, hG ▸ h2.evsAt d4, hs.evs⟩, fun y hy => ⟨(), trivial, rfl, Sub.refl _, trivial⟩⟩
      · have hy : y = decide (x.r.id = x.s.id) := hy
        rw [hy, hs.id] at h; simp at h
    · have hy : y = decide (x.r.dd = x.s.dd) := hy
      rw [hy, hs.dd] at h; simp at h
  · rw [hs.name] at h; simp at h
  · rw [hs.locked] at h; simp at h
  · rw [hs.sec] at h; simp at h
  · rw [hs.ram] at h; simp at h
theorem call18_ok (f : Nat) : SpecOk Tryz.prog f (call18 f) := by
  unfold call18
  cases h1 : Nat.beq f 13
  · cases h2 : Nat.beq f 53
    · exact noSpec_ok _ f
    · have := beq_t h2
      subst this
      exact spec53
  · have := beq_t h1
    subst this
    exact spec13G
theorem spec18 : SpecOk Tryz.prog 18 conAlike.spec :=
  Con.sound (body_ok call18_ok (iter_ways 0) (fun vs w => Tryz.call18 vs w)) alike_ok

theorem RecOk.mono {r : RecX} (h : RecOk r) {G : Nat → Option Obj} (hG : Sub r.G G) : RecOk { r with G := G } := by
  refine ⟨h.ram, h.sec, h.disk.mono hG, h.image.mono hG, h.evLen, ?_, fun e he => (h.evs e he).mono hG, h.name, h.evBig⟩
  rcases h.evAt with h | ⟨b, o, h1, c, el, fz, h2, h3⟩
  · exact .inl h
  · exact .inr ⟨b, o, h1, c, el, fz, hG _ _ h2, h3⟩
theorem back_ok : conBack.Vc body4 := by
  rw [back_vc]
  intro x hx
  have hx : RecOk x := hx
  refine ⟨⟨x.G⟩, Sub.refl _, trivial, fun _ _ => ⟨x, rfl, rfl, rfl, rfl, rfl, rfl, rfl, rfl, rfl, rfl, rfl, rfl, rfl, Sub.refl _, hx, fun y hy => ⟨fun _ => ⟨x.G, Sub.refl _, rfl, Sub.refl _, trivial⟩, fun hb => ?_⟩⟩⟩
  have hy : y = true → Few x := hy
  have hfew := hy (by simpa using hb)
  refine ⟨x, rfl, rfl, rfl, rfl, rfl, rfl, rfl, rfl, rfl, rfl, rfl, rfl, rfl, Sub.refl _, hx, fun z hz => ⟨fun _ => ⟨x.G, Sub.refl _, rfl, Sub.refl _, trivial⟩, fun hb => ?_⟩⟩
  have hz : z = true ↔ ∀ e ∈ x.evs, IsByte e.k := hz
  have hk := hz.1 (by simpa using hb)
  have hp : BytesPre x := ⟨hx, small_of_few hx hfew, hk⟩
  refine ⟨x, rfl, rfl, rfl, rfl, rfl, rfl, rfl, rfl, rfl, rfl, rfl, rfl, rfl, Sub.refl _, hp, fun a ha => ?_⟩
  obtain ⟨⟨xs, vs⟩, k⟩ := a
  have ⟨(ha : xs = recB x ++ word4 (sumB (recB x))), (hk0 : x.G k = none)⟩ := ha
  obtain ⟨se1, se2⟩ := sum_eq (recB_byte hx)
  have hbyte : ∀ b ∈ xs, IsByte b := by
    intro b hb
    rw [ha] at hb
    rcases List.mem_append.1 hb with hb | hb
    · exact recB_byte hx b hb
    · have s1 : ∀ c ∈ word4 (sumB (recB x)), IsByte c := by
        intro c hc
        simp only [word4, List.mem_cons, List.not_mem_nil, or_false] at hc
        have : ∀ n : Int, IsByte (IntKind.u8.wrap n) := fun n => by rw [IntKind.wrap_u8']; exact ⟨by omega, by omega⟩
        rcases hc with rfl | rfl | rfl | rfl <;> exact this _
      exact s1 b hb
  have hsub : Sub x.G (addG k (.cells (xs.map (Value.int .u8) ++ vs).toArray 5 (0, 0)) x.G) := addG_sub hk0
  have hlen := recB_len hp
  have hxl : xs.length ≤ 20004 := by rw [ha]; simp only [List.length_append, word4_len]; omega
  refine ⟨⟨some ⟨k, 0, none⟩, xs.length, xs.length + vs.length, xs, addG k (.cells (xs.map (Value.int .u8) ++ vs).toArray 5 (0, 0)) x.G⟩, rfl, rfl, rfl, Sub.refl _, ⟨bs_frz _ _ _ _ hbyte, by show xs.length ≤ 30000; omega⟩, fun y hy => ?_⟩
  obtain ⟨p1, p2, ⟨p3, p4, p5, p6, p7⟩, p8⟩ := (hy : ParsePost _ y)
  have p3 : y.r.dl ≤ xs.length := p3
  have p4 : y.r.il ≤ xs.length := p4
  have p7 : ∀ e ∈ y.r.evs, e.l ≤ xs.length := p7
  have p1 : Sub (addG k (.cells (xs.map (Value.int .u8) ++ vs).toArray 5 (0, 0)) x.G) y.r.G := p1
  obtain ⟨f1, f2, f3, f4, f5⟩ := hfew
  have d1 := hx.disk.len
  have d2 := hx.image.len
  have d3 := bytesOf_len x.name
  have d4 := hx.evLen
  have hcan : Canon x := ⟨hx.ram, hx.sec, by omega, by omega, by omega, ⟨d4, by omega⟩, fun e he => ⟨hk e he, (hx.evs e he).a, by have := (hx.evs e he).d.len; have := f5 e he; omega⟩⟩
  have hG : Sub x.G y.r.G := hsub.trans p1
  rcases p8 with ⟨q1, q2, q3, q4⟩ | ⟨_, _, _, q⟩
  · have q3 : xs = recB y.r ++ word4 (sumB (recB y.r)) := q3
    have he : recB y.r = recB x := by
      rw [ha] at q3
      exact (List.append_inj' q3 (by rw [word4_len, word4_len])).1.symm
    have hsame := q4 x hcan he
    refine ⟨fun _ => ⟨rfl, rfl, rfl, rfl, rfl, rfl, rfl, rfl, rfl, rfl, rfl, rfl, rfl, ⟨y.r, { x with G := y.r.G }⟩, rfl, rfl, rfl, rfl, rfl, rfl, rfl, rfl, rfl, rfl, rfl, rfl, rfl, rfl, rfl, rfl, rfl, rfl, rfl, rfl, rfl, rfl, rfl, rfl, rfl, rfl, Sub.refl _, ?_, fun _ _ => ⟨y.r.G, hG, rfl, Sub.refl _, trivial⟩⟩, fun h => ?_⟩
    · exact ⟨p2, hx.mono hG, rfl, ⟨hsame.ram, hsame.sec, hsame.locked, hsame.dd, hsame.id, hsame.name, hsame.el, hsame.evs⟩, by show y.r.dl ≤ 1000000; omega, by show y.r.il ≤ 1000000; omega, fun e he => by have := p7 e he; omega, fun e he => by have := f5 e he; omega⟩
    · rw [q1] at h; simp at h
  · exact absurd ⟨x, hcan, ha⟩ q
theorem call4_ok (f : Nat) : SpecOk Tryz.prog f (call4 f) := by
  unfold call4
  cases h1 : Nat.beq f 10
  · cases h2 : Nat.beq f 11
    · cases h3 : Nat.beq f 12
      · cases h4 : Nat.beq f 14
        · cases h5 : Nat.beq f 16
          · cases h6 : Nat.beq f 17
            · cases h7 : Nat.beq f 18
              · exact noSpec_ok _ f
              · have := beq_t h7
                subst this
                exact spec18
            · have := beq_t h6
              subst this
              exact spec17
          · have := beq_t h5
            subst this
            exact body_ok (fun f => noSpec_ok _ f) (iter_ways 0) (fun vs w => Tryz.call16 vs w)
        · have := beq_t h4
          subst this
          exact spec14F
      · have := beq_t h3
        subst this
        exact spec12
    · have := beq_t h2
      subst this
      exact spec11
  · have := beq_t h1
    subst this
    exact spec10
theorem spec4 : SpecOk Tryz.prog 4 conBack.spec :=
  Con.sound (body_ok call4_ok (iter_ways 0) (fun vs w => Tryz.call4 vs w)) back_ok

theorem parses_ok : conParses.Vc body5 := by
  rw [parses_vc]
  intro x hx
  obtain ⟨hb, hl⟩ := (hx : Bs x.G x.p x.l x.c x.d ∧ x.l < 9223372036854775808)
  refine ⟨⟨x.G⟩, Sub.refl _, trivial, fun _ _ => ⟨fun _ => ⟨x.G, Sub.refl _, rfl, Sub.refl _, trivial⟩, fun h3 => ?_⟩⟩
  have h3 := of_decide_eq_false h3
  refine ⟨x, rfl, rfl, rfl, Sub.refl _, ⟨hb, by show x.l ≤ 30000; omega⟩, fun y hy => ?_⟩
  obtain ⟨p1, p2, ⟨p3, p4, p5, p6, p7⟩, p8⟩ := (hy : ParsePost x y)
  rcases p8 with ⟨q1, q2, q3, q4⟩ | ⟨q1, q2, q3, q⟩
  · refine ⟨fun h => ?_, fun _ => ?_⟩
    · rw [q1] at h; simp at h
    have hd := congrArg List.length q3
    have hdl := hb.len
    simp only [List.length_append, word4_len] at hd
    have hp : BytesPre y.r := ⟨p2, ⟨by omega, by omega, by omega, by omega, fun e he => by have := p7 e he; omega, by omega⟩, q2⟩
    refine ⟨y.r, rfl, rfl, rfl, rfl, rfl, rfl, rfl, rfl, rfl, rfl, rfl, rfl, rfl, Sub.refl _, p2, fun z hz => ⟨fun _ => ?_, fun h => ?_⟩⟩
    · refine ⟨y.r, rfl, rfl, rfl, rfl, rfl, rfl, rfl, rfl, rfl, rfl, rfl, rfl, rfl, Sub.refl _, hp, fun a ha => ?_⟩
      obtain ⟨⟨xs, vs⟩, k⟩ := a
      have ⟨(ha : xs = recB y.r ++ word4 (sumB (recB y.r))), (hk0 : y.r.G k = none)⟩ := ha
      have hxd : xs = x.d := by rw [ha, ← q3]
      have hsub : Sub y.r.G (addG k (.cells (xs.map (Value.int .u8) ++ vs).toArray 5 (0, 0)) y.r.G) := addG_sub hk0
      have hbyte : ∀ b ∈ xs, IsByte b := fun b h => hb.byte b (hxd ▸ h)
      refine ⟨⟨some ⟨k, 0, none⟩, xs.length, xs.length + vs.length, xs, x.p, x.l, x.c, x.d, addG k (.cells (xs.map (Value.int .u8) ++ vs).toArray 5 (0, 0)) y.r.G⟩, rfl, rfl, rfl, rfl, rfl, rfl, Sub.refl _, ⟨bs_frz _ _ _ _ hbyte, hb.mono (p1.trans hsub), by show xs.length ≤ 1000000; rw [hxd]; omega⟩, fun v hv => ?_⟩
      have hv : v = decide (xs = x.d) := hv
      refine ⟨_, p1.trans hsub, ?_, Sub.refl _, trivial⟩
      rw [hv]
      exact (decide_eq_true hxd).symm
    · have hz : z = true ↔ ∀ e ∈ y.r.evs, IsByte e.k := hz
      rw [hz.2 q2] at h; cases h
  · refine ⟨fun _ => ⟨fun _ => ⟨fun _ => ⟨y.r.G, p1, ?_, Sub.refl _, trivial⟩, fun h => ?_⟩, fun h => ?_⟩, fun h => ?_⟩
    · rw [q2]; rfl
    · rw [q3] at h; simp at h
    · rw [q1] at h; simp at h
    · rw [q1] at h; simp at h
theorem call5_ok (f : Nat) : SpecOk Tryz.prog f (call5 f) := by
  unfold call5
  cases h1 : Nat.beq f 10
  · cases h3 : Nat.beq f 12
    · cases h4 : Nat.beq f 14
      · cases h6 : Nat.beq f 17
        · cases h7 : Nat.beq f 13
          · exact noSpec_ok _ f
          · have := beq_t h7
            subst this
            exact spec13G
        · have := beq_t h6
          subst this
          exact spec17
      · have := beq_t h4
        subst this
        exact spec14F
    · have := beq_t h3
      subst this
      exact spec12
  · have := beq_t h1
    subst this
    exact spec10
theorem spec5 : SpecOk Tryz.prog 5 conParses.spec :=
  Con.sound (body_ok call5_ok (iter_ways 0) (fun vs w => Tryz.call5 vs w)) parses_ok
end Sw
end
