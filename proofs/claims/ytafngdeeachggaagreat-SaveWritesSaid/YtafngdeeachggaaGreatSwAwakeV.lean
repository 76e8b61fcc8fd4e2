/- What SwAwake's conditions come to, word for word: made by a program. -/
import Derived.Test.YtafngdeeachggaaGreatSwAwake
set_option maxRecDepth 100000
set_option linter.unusedVariables false
set_option linter.unusedVariables false
set_option linter.unusedSimpArgs false
namespace Sw
open Go Go.Proofs Vx
theorem awake_vc : (conAwake.Vc body10) = (
∀ (x : Sw.GX),
 Sw.conAwake.pre x →
∀ (c : Nat) (vs : List Go.Value),
(1 : Nat) ≤ c →
 vs.length = (c - (1 : Nat)) * (3 : Nat) →
(∀ (v : Go.Value), v ∈ vs → v.oneCell' = Bool.true) →
∀ (vs : List Go.Value),
 vs.length = (8 : Nat) →
(∀ (v : Go.Value), v ∈ vs → v.oneCell' = Bool.true) →
∀ (c : Nat) (vs : List Go.Value),
(8 : Nat) ≤ c →
 vs.length = (c - (8 : Nat)) * (1 : Nat) →
(∀ (v : Go.Value), v ∈ vs → v.oneCell' = Bool.true) →
∀ (vs : List Go.Value),
 vs.length = (0 : Nat) →
(∀ (v : Go.Value), v ∈ vs → v.oneCell' = Bool.true) →
∀ (vs : List Go.Value),
 vs.length = (0 : Nat) →
(∀ (v : Go.Value), v ∈ vs → v.oneCell' = Bool.true) →
∀ (c : Nat) (vs : List Go.Value),
(1 : Nat) ≤ c →
 vs.length = (c - (1 : Nat)) * (3 : Nat) →
(∀ (v : Go.Value), v ∈ vs → v.oneCell' = Bool.true) →
∀ (c : Nat) (vs : List Go.Value),
(1 : Nat) ≤ c →
 vs.length = (c - (1 : Nat)) * (3 : Nat) →
(∀ (v : Go.Value), v ∈ vs → v.oneCell' = Bool.true) →
∃ (y : PUnit), Sw.conAwake.post x y ∧ Vx.Sub (Sw.conAwake.G' x y) x.G ∧ True) := by kernel_rfl
end Sw
