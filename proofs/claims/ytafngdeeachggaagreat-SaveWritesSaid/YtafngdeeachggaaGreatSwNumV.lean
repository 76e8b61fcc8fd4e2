/- What SwNum's conditions come to, word for word: made by a program. -/
import Derived.Test.YtafngdeeachggaaGreatSwNum
set_option maxRecDepth 100000
set_option linter.unusedVariables false
set_option linter.unusedVariables false
set_option linter.unusedSimpArgs false
namespace Sw
open Go Go.Proofs Vx
theorem num_vc : (conNum.Vc body40) = (
∀ (x : Sw.OutX),
  Sw.conNum.pre x →
    ∃ (g : Sw.NumG),
      ∃ (x0 : Sw.OutX),
        x0.xs.length = x.xs.length ∧
          x0.xs.length + x0.vs.length = x.xs.length + x.vs.length ∧
            x0.n = x.n ∧
              x0.xs = x.xs ∧
                x0.xs.length = x.xs.length ∧
                  x0.vs = x.vs ∧
                    x0.vs.length = x.vs.length ∧
                      Vx.Sub ((Sw.numL g).G x0) x.G ∧
                        (Sw.numL g).inv x0 ∧
                          ∀ (x_1 : Sw.OutX),
                            (Sw.numL g).inv x_1 →
                              ∀ (d : Nat → Go.Value),
                                (Decidable.decide (x_1.n ≥ (128 : Int)) = Bool.true →
                                    ∀ (r : Int),
                                      r = Go.IntKind.u8.wrap x_1.n →
                                        ∀ (r_1 : Int),
                                          r_1 = Vx.bits Go.BinOp.or Go.IntKind.u8 r (128 : Int) →
                                            x_1.xs.length + (1 : Nat) ≤ (140737488355328 : Nat) ∧
                                              (x_1.xs.length + (1 : Nat) ≤ (140737488355328 : Nat) →
                                                x_1.xs.length + (1 : Nat) ≤ (9223372036854775807 : Nat) ∧
                                                  (x_1.xs.length + (1 : Nat) ≤ (9223372036854775807 : Nat) →
                                                    x_1.xs.length = x_1.xs.length ∧
                                                      (x_1.xs.length = x_1.xs.length →
                                                        x_1.vs.length = x_1.xs.length + x_1.vs.length - x_1.xs.length ∧
                                                          (x_1.vs.length = x_1.xs.length + x_1.vs.length - x_1.xs.length →
                                                            x_1.xs.length ≤ x_1.xs.length + x_1.vs.length ∧
                                                              (x_1.xs.length ≤ x_1.xs.length + x_1.vs.length →
                                                                ∀ (c : Nat) (vs : List Go.Value),
                                                                  x_1.xs.length + (1 : Nat) ≤ c →
                                                                    vs.length = (c - (x_1.xs.length + (1 : Nat))) * (1 : Nat) →
                                                                      (∀ (v : Go.Value), v ∈ vs → v.oneCell' = Bool.true) →
                                                                        ∀ (r : Int),
                                                                          r = Vx.shft Go.BinOp.shr Go.IntKind.u64 x_1.n (7 : Int) →
                                                                            ∃ (x' : Sw.OutX),
                                                                              (Sw.numL g).inv x' ∧
                                                                                (Sw.numL g).mea x' < (Sw.numL g).mea x_1 ∧
                                                                                  x'.xs.length = x_1.xs.length + (1 : Nat) ∧
                                                                                    x'.xs.length + x'.vs.length = c ∧
                                                                                      x'.n = r ∧
                                                                                        x'.xs = x_1.xs ++ [r_1] ∧
                                                                                          x'.xs.length = x_1.xs.length + (1 : Nat) ∧
                                                                                            x'.vs = vs ∧
                                                                                              x'.vs.length = (c - (x_1.xs.length + (1 : Nat))) * (1 : Nat) ∧
                                                                                                Vx.Sub ((Sw.numL g).G x') x_1.G ∧ True)))))) ∧
                                  (Decidable.decide (x_1.n ≥ (128 : Int)) = Bool.false →
                                    ∀ (r : Int),
                                      r = Go.IntKind.u8.wrap x_1.n →
                                        x_1.xs.length + (1 : Nat) ≤ (140737488355328 : Nat) ∧
                                          (x_1.xs.length + (1 : Nat) ≤ (140737488355328 : Nat) →
                                            x_1.xs.length + (1 : Nat) ≤ (9223372036854775807 : Nat) ∧
                                              (x_1.xs.length + (1 : Nat) ≤ (9223372036854775807 : Nat) →
                                                x_1.xs.length = x_1.xs.length ∧
                                                  (x_1.xs.length = x_1.xs.length →
                                                    x_1.vs.length = x_1.xs.length + x_1.vs.length - x_1.xs.length ∧
                                                      (x_1.vs.length = x_1.xs.length + x_1.vs.length - x_1.xs.length →
                                                        x_1.xs.length ≤ x_1.xs.length + x_1.vs.length ∧
                                                          (x_1.xs.length ≤ x_1.xs.length + x_1.vs.length →
                                                            ∀ (c : Nat) (vs : List Go.Value),
                                                              x_1.xs.length + (1 : Nat) ≤ c →
                                                                vs.length = (c - (x_1.xs.length + (1 : Nat))) * (1 : Nat) →
                                                                  (∀ (v : Go.Value), v ∈ vs → v.oneCell' = Bool.true) →
                                                                    ∃ (y : Sw.OutY),
                                                                      Sw.conNum.post x y ∧
                                                                        y.xs.length = x_1.xs.length + (1 : Nat) ∧
                                                                          y.xs.length + y.vs.length = c ∧
                                                                            y.xs = x_1.xs ++ [r] ∧
                                                                              y.xs.length = x_1.xs.length + (1 : Nat) ∧
                                                                                y.vs = vs ∧
                                                                                  y.vs.length = (c - (x_1.xs.length + (1 : Nat))) * (1 : Nat) ∧
                                                                                    Vx.Sub (Sw.conNum.G' x y) x_1.G ∧ True))))))) := by kernel_rfl
end Sw
