/- What SwLaw's conditions come to, word for word: made by a program. -/
import Derived.Test.YtafngdeeachggaaGreatSwLaw
set_option maxRecDepth 100000
set_option linter.unusedVariables false
set_option linter.unusedVariables false
set_option linter.unusedSimpArgs false
namespace Sw
open Go Go.Proofs Vx
theorem law_vc : (conLaw.Vc body3) = (
∀ (x : Sw.RecX),
 Sw.conLaw.pre x →
∃ (x_1 : Sw.GX),
 Vx.Sub (Sw.conAwake.G x_1) x.G ∧
 Sw.conAwake.pre x_1 ∧
∀ (y : PUnit),
 Sw.conAwake.post x_1 y →
∃ (x_2 : Sw.RecX),
 x_2.ram = x.ram ∧
 x_2.sec = x.sec ∧
 x_2.locked = x.locked ∧
 x_2.dp = x.dp ∧
 x_2.dl = x.dl ∧
 x_2.dc = x.dc ∧
 x_2.ip = x.ip ∧
 x_2.il = x.il ∧
 x_2.ic = x.ic ∧
 x_2.name = x.name ∧
 x_2.ep = x.ep ∧
 x_2.el = x.el ∧
 x_2.ec = x.ec ∧
 Vx.Sub (Sw.conFew.G x_2) x_1.G ∧
 Sw.conFew.pre x_2 ∧
∀ (y : Bool),
 Sw.conFew.post x_2 y →
((!y) = Bool.true →
∃ (y : PUnit), Sw.conLaw.post x y ∧ Bool.true = Bool.true ∧ Vx.Sub (Sw.conLaw.G' x y) x_2.G ∧ True) ∧
((!y) = Bool.false →
∃ (x_3 : Sw.RecX),
 x_3.ram = x.ram ∧
 x_3.sec = x.sec ∧
 x_3.locked = x.locked ∧
 x_3.dp = x.dp ∧
 x_3.dl = x.dl ∧
 x_3.dc = x.dc ∧
 x_3.ip = x.ip ∧
 x_3.il = x.il ∧
 x_3.ic = x.ic ∧
 x_3.name = x.name ∧
 x_3.ep = x.ep ∧
 x_3.el = x.el ∧
 x_3.ec = x.ec ∧
 Vx.Sub (Sw.conKinds.G x_3) x_2.G ∧
 Sw.conKinds.pre x_3 ∧
∀ (y : Bool),
 Sw.conKinds.post x_3 y →
((!y) = Bool.true →
∃ (y : PUnit),
 Sw.conLaw.post x y ∧
 Bool.true = Bool.true ∧
 Vx.Sub (Sw.conLaw.G' x y) x_3.G ∧ True) ∧
((!y) = Bool.false →
∃ (x_4 : Sw.RecX),
 x_4.ram = x.ram ∧
 x_4.sec = x.sec ∧
 x_4.locked = x.locked ∧
 x_4.dp = x.dp ∧
 x_4.dl = x.dl ∧
 x_4.dc = x.dc ∧
 x_4.ip = x.ip ∧
 x_4.il = x.il ∧
 x_4.ic = x.ic ∧
 x_4.name = x.name ∧
 x_4.ep = x.ep ∧
 x_4.el = x.el ∧
 x_4.ec = x.ec ∧
 Vx.Sub (Sw.conBytes.G x_4) x_3.G ∧
 Sw.conBytes.pre x_4 ∧
∀ (y : Sw.OutY),
 Sw.conBytes.post x_4 y →
 x.ram = x.ram ∧
 x.sec = x.sec ∧
 x.locked = x.locked ∧
 x.dp = x.dp ∧
 x.dl = x.dl ∧
 x.dc = x.dc ∧
 x.ip = x.ip ∧
 x.il = x.il ∧
 x.ic = x.ic ∧
 x.name =
 x.name ∧
 x.ep =
 x.ep ∧
 x.el =
 x.el ∧
 x.ec =
 x.ec ∧
∃
(x_5
:
 Sw.RecX),
 x_5.ram =
 x.ram ∧
 x_5.sec =
 x.sec ∧
 x_5.locked =
 x.locked ∧
 x_5.dp =
 x.dp ∧
 x_5.dl =
 x.dl ∧
 x_5.dc =
 x.dc ∧
 x_5.ip =
 x.ip ∧
 x_5.il =
 x.il ∧
 x_5.ic =
 x.ic ∧
 x_5.name =
 x.name ∧
 x_5.ep =
 x.ep ∧
 x_5.el =
 x.el ∧
 x_5.ec =
 x.ec ∧
 Vx.Sub
(Sw.conRef.G
 x_5)
 x_4.G ∧
 Sw.conRef.pre
 x_5 ∧
∀
(y_1 :
 Sw.OutY),
 Sw.conRef.post
 x_5
 y_1 →
∃
(x_6
:
 Sw.TwoX),
 x_6.xs.length =
 y.xs.length ∧
 x_6.xs.length +
 x_6.vs.length =
 y.xs.length +
 y.vs.length ∧
 x_6.ys.length =
 y_1.xs.length ∧
 x_6.ys.length +
 x_6.ws.length =
 y_1.xs.length +
 y_1.vs.length ∧
 x_6.xs =
 y.xs ∧
 x_6.xs.length =
 y.xs.length ∧
 x_6.vs =
 y.vs ∧
 x_6.vs.length =
 y.vs.length ∧
 x_6.ys =
 y_1.xs ∧
 x_6.ys.length =
 y_1.xs.length ∧
 x_6.ws =
 y_1.vs ∧
 x_6.ws.length =
 y_1.vs.length ∧
 Vx.Sub
(Sw.conCmp.G
 x_6)
 x_5.G ∧
 Sw.conCmp.pre
 x_6 ∧
∀
(y :
 Bool),
 Sw.conCmp.post
 x_6
 y →
∃
(y_2
:
 PUnit),
 Sw.conLaw.post
 x
 y_2 ∧
 Bool.true =
 y ∧
 Vx.Sub
(Sw.conLaw.G'
 x
 y_2)
 x_6.G ∧
 True))) := by kernel_rfl
end Sw
