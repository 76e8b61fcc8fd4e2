/- What SwText's conditions come to, word for word: made by a program. -/
import Derived.Test.YtafngdeeachggaaGreatSwText
set_option maxRecDepth 100000
set_option linter.unusedVariables false
set_option linter.unusedVariables false
set_option linter.unusedSimpArgs false
namespace Sw
open Go Go.Proofs Vx
theorem flag_vc : (conFlag.Vc body41) = (
∀ (x : Sw.FlagX),
 Sw.conFlag.pre x →
(x.b = Bool.true → ∃ (y : Int), Sw.conFlag.post x y ∧ y = (1 : Int) ∧ Vx.Sub (Sw.conFlag.G' x y) x.G ∧ True) ∧
(x.b = Bool.false → ∃ (y : Int), Sw.conFlag.post x y ∧ y = (0 : Int) ∧ Vx.Sub (Sw.conFlag.G' x y) x.G ∧ True)) := by kernel_rfl
theorem textG_vc : (conTextG.Vc body42) = (
∀ (x : Sw.TextX),
 Sw.conTextG.pre x →
∀ (r : Int),
 r = Go.IntKind.u64.wrap (↑x.l : Int) →
∃ (x_1 : Sw.OutX),
 x_1.xs.length = x.xs.length ∧
 x_1.xs.length + x_1.vs.length = x.xs.length + x.vs.length ∧
 x_1.n = r ∧
 x_1.xs = x.xs ∧
 x_1.xs.length = x.xs.length ∧
 x_1.vs = x.vs ∧
 x_1.vs.length = x.vs.length ∧
 Vx.Sub (Sw.conNum.G x_1) x.G ∧
 Sw.conNum.pre x_1 ∧
∀ (y : Sw.OutY),
 Sw.conNum.post x_1 y →
∃ (ys : List Int),
 ys.length = x.l ∧
 Vx.RdS x_1.G x.p x.l (List.map (Go.Value.int Go.IntKind.u8) ys) ∧
 y.xs.length + x.l ≤ (140737488355328 : Nat) ∧
(y.xs.length + x.l ≤ (140737488355328 : Nat) →
 y.xs.length + x.l ≤ (9223372036854775807 : Nat) ∧
(y.xs.length + x.l ≤ (9223372036854775807 : Nat) →
 y.xs.length = y.xs.length ∧
(y.xs.length = y.xs.length →
 y.vs.length = y.xs.length + y.vs.length - y.xs.length ∧
(y.vs.length = y.xs.length + y.vs.length - y.xs.length →
 y.xs.length ≤ y.xs.length + y.vs.length ∧
(y.xs.length ≤ y.xs.length + y.vs.length →
∀ (c : Nat) (vs : List Go.Value),
 y.xs.length + x.l ≤ c →
 vs.length = (c - (y.xs.length + x.l)) * (1 : Nat) →
(∀ (v : Go.Value), v ∈ vs → v.oneCell' = Bool.true) →
∃ (y_1 : Sw.OutY),
 Sw.conTextG.post x y_1 ∧
 y_1.xs.length = y.xs.length + x.l ∧
 y_1.xs.length + y_1.vs.length = c ∧
 y_1.xs = y.xs ++ ys ∧
 y_1.xs.length = y.xs.length + x.l ∧
 y_1.vs = vs ∧
 y_1.vs.length = (c - (y.xs.length + x.l)) * (1 : Nat) ∧
 Vx.Sub (Sw.conTextG.G' x y_1) x_1.G ∧ True)))))) := by kernel_rfl
theorem textS_vc : (conTextS.Vc body42) = (
∀ (x : Sw.TextY),
 Sw.conTextS.pre x →
∀ (r : Int),
 r = Go.IntKind.u64.wrap (↑x.d.length : Int) →
∃ (x_1 : Sw.OutX),
 x_1.xs.length = x.xs.length ∧
 x_1.xs.length + x_1.vs.length = x.xs.length + x.vs.length ∧
 x_1.n = r ∧
 x_1.xs = x.xs ∧
 x_1.xs.length = x.xs.length ∧
 x_1.vs = x.vs ∧
 x_1.vs.length = x.vs.length ∧
 Vx.Sub (Sw.conNum.G x_1) x.G ∧
 Sw.conNum.pre x_1 ∧
∀ (y : Sw.OutY),
 Sw.conNum.post x_1 y →
(0 : Nat) + x.d.length ≤ x.d.length ∧
((0 : Nat) + x.d.length ≤ x.d.length →
∀ (ys : List Int),
 ys = List.take x.d.length (List.drop (0 : Nat) x.d) →
 y.xs.length + x.d.length ≤ (140737488355328 : Nat) ∧
(y.xs.length + x.d.length ≤ (140737488355328 : Nat) →
 y.xs.length + x.d.length ≤ (9223372036854775807 : Nat) ∧
(y.xs.length + x.d.length ≤ (9223372036854775807 : Nat) →
 y.xs.length = y.xs.length ∧
(y.xs.length = y.xs.length →
 y.vs.length = y.xs.length + y.vs.length - y.xs.length ∧
(y.vs.length = y.xs.length + y.vs.length - y.xs.length →
 y.xs.length ≤ y.xs.length + y.vs.length ∧
(y.xs.length ≤ y.xs.length + y.vs.length →
∀ (c : Nat) (vs : List Go.Value),
 y.xs.length + x.d.length ≤ c →
 vs.length = (c - (y.xs.length + x.d.length)) * (1 : Nat) →
(∀ (v : Go.Value), v ∈ vs → v.oneCell' = Bool.true) →
∃ (y_1 : Sw.OutY),
 Sw.conTextS.post x y_1 ∧
 y_1.xs.length = y.xs.length + x.d.length ∧
 y_1.xs.length + y_1.vs.length = c ∧
 y_1.xs = y.xs ++ ys ∧
 y_1.xs.length = y.xs.length + x.d.length ∧
 y_1.vs = vs ∧
 y_1.vs.length = (c - (y.xs.length + x.d.length)) * (1 : Nat) ∧
 Vx.Sub (Sw.conTextS.G' x y_1) x_1.G ∧ True))))))) := by kernel_rfl
theorem refG_vc : (conTextG.Vc body46) = (
∀ (x : Sw.TextX),
 Sw.conTextG.pre x →
∀ (r : Int),
 r = Go.IntKind.u64.wrap (↑x.l : Int) →
∃ (x_1 : Sw.OutX),
 x_1.xs.length = x.xs.length ∧
 x_1.xs.length + x_1.vs.length = x.xs.length + x.vs.length ∧
 x_1.n = r ∧
 x_1.xs = x.xs ∧
 x_1.xs.length = x.xs.length ∧
 x_1.vs = x.vs ∧
 x_1.vs.length = x.vs.length ∧
 Vx.Sub ((Sw.conNumR (18446744073709551616 : Nat)).G x_1) x.G ∧
(Sw.conNumR (18446744073709551616 : Nat)).pre x_1 ∧
∀ (y : Sw.OutY),
(Sw.conNumR (18446744073709551616 : Nat)).post x_1 y →
∃ (ys : List Int),
 ys.length = x.l ∧
 Vx.RdS x_1.G x.p x.l (List.map (Go.Value.int Go.IntKind.u8) ys) ∧
 y.xs.length + x.l ≤ (140737488355328 : Nat) ∧
(y.xs.length + x.l ≤ (140737488355328 : Nat) →
 y.xs.length + x.l ≤ (9223372036854775807 : Nat) ∧
(y.xs.length + x.l ≤ (9223372036854775807 : Nat) →
 y.xs.length = y.xs.length ∧
(y.xs.length = y.xs.length →
 y.vs.length = y.xs.length + y.vs.length - y.xs.length ∧
(y.vs.length = y.xs.length + y.vs.length - y.xs.length →
 y.xs.length ≤ y.xs.length + y.vs.length ∧
(y.xs.length ≤ y.xs.length + y.vs.length →
∀ (c : Nat) (vs : List Go.Value),
 y.xs.length + x.l ≤ c →
 vs.length = (c - (y.xs.length + x.l)) * (1 : Nat) →
(∀ (v : Go.Value), v ∈ vs → v.oneCell' = Bool.true) →
∃ (y_1 : Sw.OutY),
 Sw.conTextG.post x y_1 ∧
 y_1.xs.length = y.xs.length + x.l ∧
 y_1.xs.length + y_1.vs.length = c ∧
 y_1.xs = y.xs ++ ys ∧
 y_1.xs.length = y.xs.length + x.l ∧
 y_1.vs = vs ∧
 y_1.vs.length = (c - (y.xs.length + x.l)) * (1 : Nat) ∧
 Vx.Sub (Sw.conTextG.G' x y_1) x_1.G ∧ True)))))) := by kernel_rfl
theorem refS_vc : (conTextS.Vc body46) = (
∀ (x : Sw.TextY),
 Sw.conTextS.pre x →
∀ (r : Int),
 r = Go.IntKind.u64.wrap (↑x.d.length : Int) →
∃ (x_1 : Sw.OutX),
 x_1.xs.length = x.xs.length ∧
 x_1.xs.length + x_1.vs.length = x.xs.length + x.vs.length ∧
 x_1.n = r ∧
 x_1.xs = x.xs ∧
 x_1.xs.length = x.xs.length ∧
 x_1.vs = x.vs ∧
 x_1.vs.length = x.vs.length ∧
 Vx.Sub ((Sw.conNumR (18446744073709551616 : Nat)).G x_1) x.G ∧
(Sw.conNumR (18446744073709551616 : Nat)).pre x_1 ∧
∀ (y : Sw.OutY),
(Sw.conNumR (18446744073709551616 : Nat)).post x_1 y →
(0 : Nat) + x.d.length ≤ x.d.length ∧
((0 : Nat) + x.d.length ≤ x.d.length →
∀ (ys : List Int),
 ys = List.take x.d.length (List.drop (0 : Nat) x.d) →
 y.xs.length + x.d.length ≤ (140737488355328 : Nat) ∧
(y.xs.length + x.d.length ≤ (140737488355328 : Nat) →
 y.xs.length + x.d.length ≤ (9223372036854775807 : Nat) ∧
(y.xs.length + x.d.length ≤ (9223372036854775807 : Nat) →
 y.xs.length = y.xs.length ∧
(y.xs.length = y.xs.length →
 y.vs.length = y.xs.length + y.vs.length - y.xs.length ∧
(y.vs.length = y.xs.length + y.vs.length - y.xs.length →
 y.xs.length ≤ y.xs.length + y.vs.length ∧
(y.xs.length ≤ y.xs.length + y.vs.length →
∀ (c : Nat) (vs : List Go.Value),
 y.xs.length + x.d.length ≤ c →
 vs.length = (c - (y.xs.length + x.d.length)) * (1 : Nat) →
(∀ (v : Go.Value), v ∈ vs → v.oneCell' = Bool.true) →
∃ (y_1 : Sw.OutY),
 Sw.conTextS.post x y_1 ∧
 y_1.xs.length = y.xs.length + x.d.length ∧
 y_1.xs.length + y_1.vs.length = c ∧
 y_1.xs = y.xs ++ ys ∧
 y_1.xs.length = y.xs.length + x.d.length ∧
 y_1.vs = vs ∧
 y_1.vs.length = (c - (y.xs.length + x.d.length)) * (1 : Nat) ∧
 Vx.Sub (Sw.conTextS.G' x y_1) x_1.G ∧ True))))))) := by kernel_rfl
end Sw
