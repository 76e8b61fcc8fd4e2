/- What this text proves, part by part: What SwRec's conditions come to, word for word: made by a program. What SwB's conditions come to, word for word: made by a program. No condition is added. -/
import Derived.Test.YtafngdeeachggaaGreatParses01
import Derived.Test.YtafngdeeachggaaGreatParses02
import Derived.Test.YtafngdeeachggaaGreatParses03
import Derived.Test.YtafngdeeachggaaGreatParses04
import Derived.Test.YtafngdeeachggaaGreatParses05
set_option linter.unusedVariables false
set_option linter.unusedSimpArgs false
section
/- What SwRec's conditions come to, word for word: made by a program. -/
set_option maxRecDepth 100000
set_option linter.unusedVariables false
namespace Sw
open Go Go.Proofs Vx
theorem few_vc : (conFew.Vc body11) = (
∀ (x : Sw.RecX),
  Sw.conFew.pre x →
    (Decidable.decide ((↑x.il : Int) > (3000 : Int)) = Bool.true → ∃ (y : Bool), Sw.conFew.post x y ∧ y = Bool.false ∧ Vx.Sub (Sw.conFew.G' x y) x.G ∧ True) ∧
      (Decidable.decide ((↑x.il : Int) > (3000 : Int)) = Bool.false →
        (Decidable.decide ((↑x.dl : Int) > (3000 : Int)) = Bool.true →
            ∃ (y : Bool), Sw.conFew.post x y ∧ y = Bool.false ∧ Vx.Sub (Sw.conFew.G' x y) x.G ∧ True) ∧
          (Decidable.decide ((↑x.dl : Int) > (3000 : Int)) = Bool.false →
            (Decidable.decide ((↑x.name.size : Int) > (100 : Int)) = Bool.true →
                ∃ (y : Bool), Sw.conFew.post x y ∧ y = Bool.false ∧ Vx.Sub (Sw.conFew.G' x y) x.G ∧ True) ∧
              (Decidable.decide ((↑x.name.size : Int) > (100 : Int)) = Bool.false →
                (Decidable.decide ((↑x.el : Int) > (14 : Int)) = Bool.true →
                    ∃ (y : Bool), Sw.conFew.post x y ∧ y = Bool.false ∧ Vx.Sub (Sw.conFew.G' x y) x.G ∧ True) ∧
                  (Decidable.decide ((↑x.el : Int) > (14 : Int)) = Bool.false →
                    (Decidable.decide (x.sec > (64 : Int)) = Bool.true →
                        (Decidable.decide (x.sec ≤ (65536 : Int)) = Bool.true →
                            ∃ (y : Bool), Sw.conFew.post x y ∧ y = Bool.false ∧ Vx.Sub (Sw.conFew.G' x y) x.G ∧ True) ∧
                          (Decidable.decide (x.sec ≤ (65536 : Int)) = Bool.false →
                            ∃ (g : Sw.RecX),
                              ∃ (x0 : Sw.RecI),
                                (↑x0.i : Int) = (0 : Int) ∧
                                  g.ram = x.ram ∧
                                    g.sec = x.sec ∧
                                      g.locked = x.locked ∧
                                        g.dp = x.dp ∧
                                          g.dl = x.dl ∧
                                            g.dc = x.dc ∧
                                              g.ip = x.ip ∧
                                                g.il = x.il ∧
                                                  g.ic = x.ic ∧
                                                    g.name = x.name ∧
                                                      g.ep = x.ep ∧
                                                        g.el = x.el ∧
                                                          g.ec = x.ec ∧
                                                            Vx.Sub ((Sw.fewL g).G x0) x.G ∧
                                                              (Sw.fewL g).inv x0 ∧
                                                                ∀ (x_1 : Sw.RecI),
                                                                  (Sw.fewL g).inv x_1 →
                                                                    ∀ (d : Nat → Go.Value),
                                                                      (Decidable.decide ((↑x_1.i : Int) < (↑g.el : Int)) = Bool.true →
                                                                          ((0 : Int) ≤ (↑x_1.i : Int) ∧ (↑x_1.i : Int) < (↑g.el : Int)) ∧
                                                                            ((0 : Int) ≤ (↑x_1.i : Int) ∧ (↑x_1.i : Int) < (↑g.el : Int) →
                                                                              ∃ (b : Nat),
                                                                                ∃ (o : Nat),
                                                                                  g.ep = Option.some { block := b, off := o } ∧
                                                                                    ∃ (x_2 : Int),
                                                                                      ∃ (x_3 : Int),
                                                                                        ∃ (a : Option Go.Addr),
                                                                                          ∃ (l : Nat),
                                                                                            ∃ (c : Nat),
                                                                                              Vx.Rd g.G b (o + (↑x_1.i : Int).toNat * (3 : Nat))
                                                                                                  [Go.Value.int Go.IntKind.i64 x_2,
                                                                                                    Go.Value.int Go.IntKind.u64 x_3, Go.Value.slice a l c] ∧
                                                                                                (Decidable.decide ((↑l : Int) > (200 : Int)) = Bool.true →
                                                                                                    ∃ (y : Bool),
                                                                                                      Sw.conFew.post x y ∧
                                                                                                        y = Bool.false ∧ Vx.Sub (Sw.conFew.G' x y) g.G ∧ True) ∧
                                                                                                  (Decidable.decide ((↑l : Int) > (200 : Int)) = Bool.false →
                                                                                                    ((x_2 == (1 : Int)) = Bool.true →
                                                                                                        (Decidable.decide (x_3 > (40 : Int)) = Bool.true →
                                                                                                            (Decidable.decide (x_3 ≤ (65536 : Int)) =
                                                                                                                  Bool.true →
                                                                                                                ∃ (y : Bool),
                                                                                                                  Sw.conFew.post x y ∧
                                                                                                                    y = Bool.false ∧
                                                                                                                      Vx.Sub (Sw.conFew.G' x y) g.G ∧ True) ∧
                                                                                                              (Decidable.decide (x_3 ≤ (65536 : Int)) =
                                                                                                                  Bool.false →
                                                                                                                ∀ (r : Int),
                                                                                                                  r =
                                                                                                                      Go.IntKind.i64.wrap
                                                                                                                        ((↑x_1.i : Int) + (1 : Int)) →
                                                                                                                    ∃ (x' : Sw.RecI),
                                                                                                                      (Sw.fewL g).inv x' ∧
                                                                                                                        (Sw.fewL g).mea x' <
                                                                                                                            (Sw.fewL g).mea x_1 ∧
                                                                                                                          (↑x'.i : Int) = r ∧
                                                                                                                            g.ram = g.ram ∧
                                                                                                                              g.sec = g.sec ∧
                                                                                                                                g.locked = g.locked ∧
                                                                                                                                  g.dp = g.dp ∧
                                                                                                                                    g.dl = g.dl ∧
                                                                                                                                      g.dc = g.dc ∧
                                                                                                                                        g.ip = g.ip ∧
                                                                                                                                          g.il = g.il ∧
                                                                                                                                            g.ic = g.ic ∧
                                                                                                                                              g.name = g.name ∧
                                                                                                                                                g.ep = g.ep ∧
                                                                                                                                                  g.el = g.el ∧
                                                                                                                                                    g.ec =
                                                                                                                                                        g.ec ∧
                                                                                                                                                      Vx.Sub
                                                                                                                                                          ((Sw.fewL
                                                                                                                                                                g).G
                                                                                                                                                            x')
                                                                                                                                                          g.G ∧
                                                                                                                                                        True)) ∧
                                                                                                          (Decidable.decide (x_3 > (40 : Int)) = Bool.false →
                                                                                                            ∀ (r : Int),
                                                                                                              r =
                                                                                                                  Go.IntKind.i64.wrap
                                                                                                                    ((↑x_1.i : Int) + (1 : Int)) →
                                                                                                                ∃ (x' : Sw.RecI),
                                                                                                                  (Sw.fewL g).inv x' ∧
                                                                                                                    (Sw.fewL g).mea x' < (Sw.fewL g).mea x_1 ∧
                                                                                                                      (↑x'.i : Int) = r ∧
                                                                                                                        g.ram = g.ram ∧
                                                                                                                          g.sec = g.sec ∧
                                                                                                                            g.locked = g.locked ∧
                                                                                                                              g.dp = g.dp ∧
                                                                                                                                g.dl = g.dl ∧
                                                                                                                                  g.dc = g.dc ∧
                                                                                                                                    g.ip = g.ip ∧
                                                                                                                                      g.il = g.il ∧
                                                                                                                                        g.ic = g.ic ∧
                                                                                                                                          g.name = g.name ∧
                                                                                                                                            g.ep = g.ep ∧
                                                                                                                                              g.el = g.el ∧
                                                                                                                                                g.ec = g.ec ∧
                                                                                                                                                  Vx.Sub
                                                                                                                                                      ((Sw.fewL
                                                                                                                                                            g).G
                                                                                                                                                        x')
                                                                                                                                                      g.G ∧
                                                                                                                                                    True)) ∧
                                                                                                      ((x_2 == (1 : Int)) = Bool.false →
                                                                                                        ∀ (r : Int),
                                                                                                          r = Go.IntKind.i64.wrap ((↑x_1.i : Int) + (1 : Int)) →
                                                                                                            ∃ (x' : Sw.RecI),
                                                                                                              (Sw.fewL g).inv x' ∧
                                                                                                                (Sw.fewL g).mea x' < (Sw.fewL g).mea x_1 ∧
                                                                                                                  (↑x'.i : Int) = r ∧
                                                                                                                    g.ram = g.ram ∧
                                                                                                                      g.sec = g.sec ∧
                                                                                                                        g.locked = g.locked ∧
                                                                                                                          g.dp = g.dp ∧
                                                                                                                            g.dl = g.dl ∧
                                                                                                                              g.dc = g.dc ∧
                                                                                                                                g.ip = g.ip ∧
                                                                                                                                  g.il = g.il ∧
                                                                                                                                    g.ic = g.ic ∧
                                                                                                                                      g.name = g.name ∧
                                                                                                                                        g.ep = g.ep ∧
                                                                                                                                          g.el = g.el ∧
                                                                                                                                            g.ec = g.ec ∧
                                                                                                                                              Vx.Sub
                                                                                                                                                  ((Sw.fewL g).G
                                                                                                                                                    x')
                                                                                                                                                  g.G ∧
                                                                                                                                                True)))) ∧
                                                                        (Decidable.decide ((↑x_1.i : Int) < (↑g.el : Int)) = Bool.false →
                                                                          ∃ (y : Bool),
                                                                            Sw.conFew.post x y ∧ y = Bool.true ∧ Vx.Sub (Sw.conFew.G' x y) g.G ∧ True))) ∧
                      (Decidable.decide (x.sec > (64 : Int)) = Bool.false →
                        ∃ (g : Sw.RecX),
                          ∃ (x0 : Sw.RecI),
                            (↑x0.i : Int) = (0 : Int) ∧
                              g.ram = x.ram ∧
                                g.sec = x.sec ∧
                                  g.locked = x.locked ∧
                                    g.dp = x.dp ∧
                                      g.dl = x.dl ∧
                                        g.dc = x.dc ∧
                                          g.ip = x.ip ∧
                                            g.il = x.il ∧
                                              g.ic = x.ic ∧
                                                g.name = x.name ∧
                                                  g.ep = x.ep ∧
                                                    g.el = x.el ∧
                                                      g.ec = x.ec ∧
                                                        Vx.Sub ((Sw.fewL g).G x0) x.G ∧
                                                          (Sw.fewL g).inv x0 ∧
                                                            ∀ (x_1 : Sw.RecI),
                                                              (Sw.fewL g).inv x_1 →
                                                                ∀ (d : Nat → Go.Value),
                                                                  (Decidable.decide ((↑x_1.i : Int) < (↑g.el : Int)) = Bool.true →
                                                                      ((0 : Int) ≤ (↑x_1.i : Int) ∧ (↑x_1.i : Int) < (↑g.el : Int)) ∧
                                                                        ((0 : Int) ≤ (↑x_1.i : Int) ∧ (↑x_1.i : Int) < (↑g.el : Int) →
                                                                          ∃ (b : Nat),
                                                                            ∃ (o : Nat),
                                                                              g.ep = Option.some { block := b, off := o } ∧
                                                                                ∃ (x_2 : Int),
                                                                                  ∃ (x_3 : Int),
                                                                                    ∃ (a : Option Go.Addr),
                                                                                      ∃ (l : Nat),
                                                                                        ∃ (c : Nat),
                                                                                          Vx.Rd g.G b (o + (↑x_1.i : Int).toNat * (3 : Nat))
                                                                                              [Go.Value.int Go.IntKind.i64 x_2, Go.Value.int Go.IntKind.u64 x_3,
                                                                                                Go.Value.slice a l c] ∧
                                                                                            (Decidable.decide ((↑l : Int) > (200 : Int)) = Bool.true →
                                                                                                ∃ (y : Bool),
                                                                                                  Sw.conFew.post x y ∧
                                                                                                    y = Bool.false ∧ Vx.Sub (Sw.conFew.G' x y) g.G ∧ True) ∧
                                                                                              (Decidable.decide ((↑l : Int) > (200 : Int)) = Bool.false →
                                                                                                ((x_2 == (1 : Int)) = Bool.true →
                                                                                                    (Decidable.decide (x_3 > (40 : Int)) = Bool.true →
                                                                                                        (Decidable.decide (x_3 ≤ (65536 : Int)) = Bool.true →
                                                                                                            ∃ (y : Bool),
                                                                                                              Sw.conFew.post x y ∧
                                                                                                                y = Bool.false ∧
                                                                                                                  Vx.Sub (Sw.conFew.G' x y) g.G ∧ True) ∧
                                                                                                          (Decidable.decide (x_3 ≤ (65536 : Int)) = Bool.false →
                                                                                                            ∀ (r : Int),
                                                                                                              r =
                                                                                                                  Go.IntKind.i64.wrap
                                                                                                                    ((↑x_1.i : Int) + (1 : Int)) →
                                                                                                                ∃ (x' : Sw.RecI),
                                                                                                                  (Sw.fewL g).inv x' ∧
                                                                                                                    (Sw.fewL g).mea x' < (Sw.fewL g).mea x_1 ∧
                                                                                                                      (↑x'.i : Int) = r ∧
                                                                                                                        g.ram = g.ram ∧
                                                                                                                          g.sec = g.sec ∧
                                                                                                                            g.locked = g.locked ∧
                                                                                                                              g.dp = g.dp ∧
                                                                                                                                g.dl = g.dl ∧
                                                                                                                                  g.dc = g.dc ∧
                                                                                                                                    g.ip = g.ip ∧
                                                                                                                                      g.il = g.il ∧
                                                                                                                                        g.ic = g.ic ∧
                                                                                                                                          g.name = g.name ∧
                                                                                                                                            g.ep = g.ep ∧
                                                                                                                                              g.el = g.el ∧
                                                                                                                                                g.ec = g.ec ∧
                                                                                                                                                  Vx.Sub
                                                                                                                                                      ((Sw.fewL
                                                                                                                                                            g).G
                                                                                                                                                        x')
                                                                                                                                                      g.G ∧
                                                                                                                                                    True)) ∧
                                                                                                      (Decidable.decide (x_3 > (40 : Int)) = Bool.false →
                                                                                                        ∀ (r : Int),
                                                                                                          r = Go.IntKind.i64.wrap ((↑x_1.i : Int) + (1 : Int)) →
                                                                                                            ∃ (x' : Sw.RecI),
                                                                                                              (Sw.fewL g).inv x' ∧
                                                                                                                (Sw.fewL g).mea x' < (Sw.fewL g).mea x_1 ∧
                                                                                                                  (↑x'.i : Int) = r ∧
                                                                                                                    g.ram = g.ram ∧
                                                                                                                      g.sec = g.sec ∧
                                                                                                                        g.locked = g.locked ∧
                                                                                                                          g.dp = g.dp ∧
                                                                                                                            g.dl = g.dl ∧
                                                                                                                              g.dc = g.dc ∧
                                                                                                                                g.ip = g.ip ∧
                                                                                                                                  g.il = g.il ∧
                                                                                                                                    g.ic = g.ic ∧
                                                                                                                                      g.name = g.name ∧
                                                                                                                                        g.ep = g.ep ∧
                                                                                                                                          g.el = g.el ∧
                                                                                                                                            g.ec = g.ec ∧
                                                                                                                                              Vx.Sub
                                                                                                                                                  ((Sw.fewL g).G
                                                                                                                                                    x')
                                                                                                                                                  g.G ∧
                                                                                                                                                True)) ∧
                                                                                                  ((x_2 == (1 : Int)) = Bool.false →
                                                                                                    ∀ (r : Int),
                                                                                                      r = Go.IntKind.i64.wrap ((↑x_1.i : Int) + (1 : Int)) →
                                                                                                        ∃ (x' : Sw.RecI),
                                                                                                          (Sw.fewL g).inv x' ∧
                                                                                                            (Sw.fewL g).mea x' < (Sw.fewL g).mea x_1 ∧
                                                                                                              (↑x'.i : Int) = r ∧
                                                                                                                g.ram = g.ram ∧
                                                                                                                  g.sec = g.sec ∧
                                                                                                                    g.locked = g.locked ∧
                                                                                                                      g.dp = g.dp ∧
                                                                                                                        g.dl = g.dl ∧
                                                                                                                          g.dc = g.dc ∧
                                                                                                                            g.ip = g.ip ∧
                                                                                                                              g.il = g.il ∧
                                                                                                                                g.ic = g.ic ∧
                                                                                                                                  g.name = g.name ∧
                                                                                                                                    g.ep = g.ep ∧
                                                                                                                                      g.el = g.el ∧
                                                                                                                                        g.ec = g.ec ∧
                                                                                                                                          Vx.Sub
                                                                                                                                              ((Sw.fewL g).G x')
                                                                                                                                              g.G ∧
                                                                                                                                            True)))) ∧
                                                                    (Decidable.decide ((↑x_1.i : Int) < (↑g.el : Int)) = Bool.false →
                                                                      ∃ (y : Bool),
                                                                        Sw.conFew.post x y ∧ y = Bool.true ∧ Vx.Sub (Sw.conFew.G' x y) g.G ∧ True))))))) := by kernel_rfl
theorem kinds_vc : (conKinds.Vc body12) = (
∀ (x : Sw.RecX),
  Sw.conKinds.pre x →
    ∃ (g : Sw.RecX),
      ∃ (x0 : Sw.RecI),
        (↑x0.i : Int) = (0 : Int) ∧
          g.ram = x.ram ∧
            g.sec = x.sec ∧
              g.locked = x.locked ∧
                g.dp = x.dp ∧
                  g.dl = x.dl ∧
                    g.dc = x.dc ∧
                      g.ip = x.ip ∧
                        g.il = x.il ∧
                          g.ic = x.ic ∧
                            g.name = x.name ∧
                              g.ep = x.ep ∧
                                g.el = x.el ∧
                                  g.ec = x.ec ∧
                                    Vx.Sub ((Sw.kindsL g).G x0) x.G ∧
                                      (Sw.kindsL g).inv x0 ∧
                                        ∀ (x_1 : Sw.RecI),
                                          (Sw.kindsL g).inv x_1 →
                                            ∀ (d : Nat → Go.Value),
                                              (Decidable.decide ((↑x_1.i : Int) < (↑g.el : Int)) = Bool.true →
                                                  ((0 : Int) ≤ (↑x_1.i : Int) ∧ (↑x_1.i : Int) < (↑g.el : Int)) ∧
                                                    ((0 : Int) ≤ (↑x_1.i : Int) ∧ (↑x_1.i : Int) < (↑g.el : Int) →
                                                      ∃ (b : Nat),
                                                        ∃ (o : Nat),
                                                          g.ep = Option.some { block := b, off := o } ∧
                                                            ∃ (x_2 : Int),
                                                              Vx.Rd g.G b (o + (↑x_1.i : Int).toNat * (3 : Nat) + (0 : Nat)) [Go.Value.int Go.IntKind.i64 x_2] ∧
                                                                (Decidable.decide (x_2 < (0 : Int)) = Bool.true →
                                                                    ∃ (y : Bool),
                                                                      Sw.conKinds.post x y ∧ y = Bool.false ∧ Vx.Sub (Sw.conKinds.G' x y) g.G ∧ True) ∧
                                                                  (Decidable.decide (x_2 < (0 : Int)) = Bool.false →
                                                                    ((0 : Int) ≤ (↑x_1.i : Int) ∧ (↑x_1.i : Int) < (↑g.el : Int)) ∧
                                                                      ((0 : Int) ≤ (↑x_1.i : Int) ∧ (↑x_1.i : Int) < (↑g.el : Int) →
                                                                        ∃ (b : Nat),
                                                                          ∃ (o : Nat),
                                                                            g.ep = Option.some { block := b, off := o } ∧
                                                                              ∃ (x_3 : Int),
                                                                                Vx.Rd g.G b (o + (↑x_1.i : Int).toNat * (3 : Nat) + (0 : Nat))
                                                                                    [Go.Value.int Go.IntKind.i64 x_3] ∧
                                                                                  (Decidable.decide (x_3 > (255 : Int)) = Bool.true →
                                                                                      ∃ (y : Bool),
                                                                                        Sw.conKinds.post x y ∧
                                                                                          y = Bool.false ∧ Vx.Sub (Sw.conKinds.G' x y) g.G ∧ True) ∧
                                                                                    (Decidable.decide (x_3 > (255 : Int)) = Bool.false →
                                                                                      ∀ (r : Int),
                                                                                        r = Go.IntKind.i64.wrap ((↑x_1.i : Int) + (1 : Int)) →
                                                                                          ∃ (x' : Sw.RecI),
                                                                                            (Sw.kindsL g).inv x' ∧
                                                                                              (Sw.kindsL g).mea x' < (Sw.kindsL g).mea x_1 ∧
                                                                                                (↑x'.i : Int) = r ∧
                                                                                                  g.ram = g.ram ∧
                                                                                                    g.sec = g.sec ∧
                                                                                                      g.locked = g.locked ∧
                                                                                                        g.dp = g.dp ∧
                                                                                                          g.dl = g.dl ∧
                                                                                                            g.dc = g.dc ∧
                                                                                                              g.ip = g.ip ∧
                                                                                                                g.il = g.il ∧
                                                                                                                  g.ic = g.ic ∧
                                                                                                                    g.name = g.name ∧
                                                                                                                      g.ep = g.ep ∧
                                                                                                                        g.el = g.el ∧
                                                                                                                          g.ec = g.ec ∧
                                                                                                                            Vx.Sub ((Sw.kindsL g).G x') g.G ∧
                                                                                                                              True))))) ∧
                                                (Decidable.decide ((↑x_1.i : Int) < (↑g.el : Int)) = Bool.false →
                                                  ∃ (y : Bool), Sw.conKinds.post x y ∧ y = Bool.true ∧ Vx.Sub (Sw.conKinds.G' x y) g.G ∧ True)) := by kernel_rfl
end Sw
end
section
/- What SwB's conditions come to, word for word: made by a program. -/
set_option maxRecDepth 100000
set_option linter.unusedVariables false
namespace Sw
open Go Go.Proofs Vx
theorem check_vc : (conCheck.Vc body48) = (
∀ (x : Sw.ListX),
  Sw.conCheck.pre x →
    ∃ (g : Sw.ListX),
      ∃ (x0 : Sw.IW),
        g.xs.length = x.xs.length ∧
          g.xs.length + g.vs.length = x.xs.length + x.vs.length ∧
            (↑x0.i : Int) = (0 : Int) ∧
              x0.w = (2166136261 : Int) ∧
                g.xs = x.xs ∧
                  g.xs.length = x.xs.length ∧
                    g.vs = x.vs ∧
                      g.vs.length = x.vs.length ∧
                        Vx.Sub ((Sw.checkL g).G x0) x.G ∧
                          (Sw.checkL g).inv x0 ∧
                            ∀ (x_1 : Sw.IW),
                              (Sw.checkL g).inv x_1 →
                                ∀ (d : Nat → Go.Value),
                                  (Decidable.decide ((↑x_1.i : Int) < (↑g.xs.length : Int)) = Bool.true →
                                      ∃ (x : Sw.WG),
                                        x.w = x_1.w ∧
                                          Vx.Sub (Sw.conBits.G x) g.G ∧
                                            Sw.conBits.pre x ∧
                                              ∀ (y : Sw.OutY),
                                                Sw.conBits.post x y →
                                                  ((0 : Int) ≤ (↑x_1.i : Int) ∧ (↑x_1.i : Int) < (↑g.xs.length : Int)) ∧
                                                    ((0 : Int) ≤ (↑x_1.i : Int) ∧ (↑x_1.i : Int) < (↑g.xs.length : Int) →
                                                      (0 : Nat) + (↑x_1.i : Int).toNat * (1 : Nat) < g.xs.length ∧
                                                        ((0 : Nat) + (↑x_1.i : Int).toNat * (1 : Nat) < g.xs.length →
                                                          ∀ (r : Int),
                                                            r = Go.IntKind.u64.wrap (g.xs.getD ((0 : Nat) + (↑x_1.i : Int).toNat * (1 : Nat)) (0 : Int)) →
                                                              ∃ (x_2 : Sw.WG),
                                                                x_2.w = r ∧
                                                                  Vx.Sub (Sw.conBits.G x_2) x.G ∧
                                                                    Sw.conBits.pre x_2 ∧
                                                                      ∀ (y_1 : Sw.OutY),
                                                                        Sw.conBits.post x_2 y_1 →
                                                                          ∃ (g_1 : Sw.MixG),
                                                                            ∃ (x0 : Sw.MixX),
                                                                              g_1.xs.length = g.xs.length ∧
                                                                                g_1.xs.length + g_1.vs.length = g.xs.length + g.vs.length ∧
                                                                                  x0.lo.length = y.xs.length ∧
                                                                                    x0.lo.length + g_1.us.length = y.xs.length + y.vs.length ∧
                                                                                      g_1.hi.length = y_1.xs.length ∧
                                                                                        g_1.hi.length + g_1.ws.length = y_1.xs.length + y_1.vs.length ∧
                                                                                          (↑x0.k : Int) = (0 : Int) ∧
                                                                                            (↑g_1.i : Int) = (↑x_1.i : Int) ∧
                                                                                              g_1.xs = g.xs ∧
                                                                                                g_1.xs.length = g.xs.length ∧
                                                                                                  g_1.vs = g.vs ∧
                                                                                                    g_1.vs.length = g.vs.length ∧
                                                                                                      x0.lo = y.xs ∧
                                                                                                        x0.lo.length = y.xs.length ∧
                                                                                                          g_1.us = y.vs ∧
                                                                                                            g_1.us.length = y.vs.length ∧
                                                                                                              g_1.hi = y_1.xs ∧
                                                                                                                g_1.hi.length = y_1.xs.length ∧
                                                                                                                  g_1.ws = y_1.vs ∧
                                                                                                                    g_1.ws.length = y_1.vs.length ∧
                                                                                                                      Vx.Sub ((Sw.mixLoop g_1).G x0) x_2.G ∧
                                                                                                                        (Sw.mixLoop g_1).inv x0 ∧
                                                                                                                          ∀ (x : Sw.MixX),
                                                                                                                            (Sw.mixLoop g_1).inv x →
                                                                                                                              ∀ (d : Nat → Go.Value),
                                                                                                                                (Decidable.decide
                                                                                                                                        ((↑x.k : Int) <
                                                                                                                                          (64 : Int)) =
                                                                                                                                      Bool.true →
                                                                                                                                    ((0 : Int) ≤ (↑x.k : Int) ∧
                                                                                                                                        (↑x.k : Int) <
                                                                                                                                          (↑x.lo.length :
                                                                                                                                            Int)) ∧
                                                                                                                                      ((0 : Int) ≤
                                                                                                                                            (↑x.k : Int) ∧
                                                                                                                                          (↑x.k : Int) <
                                                                                                                                            (↑x.lo.length :
                                                                                                                                              Int) →
                                                                                                                                        (0 : Nat) +
                                                                                                                                              (↑x.k :
                                                                                                                                                    Int).toNat *
                                                                                                                                                (1 : Nat) <
                                                                                                                                            x.lo.length ∧
                                                                                                                                          ((0 : Nat) +
                                                                                                                                                (↑x.k :
                                                                                                                                                      Int).toNat *
                                                                                                                                                  (1 : Nat) <
                                                                                                                                              x.lo.length →
                                                                                                                                            ((0 : Int) ≤
                                                                                                                                                  (↑x.k : Int) ∧
                                                                                                                                                (↑x.k : Int) <
                                                                                                                                                  (↑g_1.hi.length :
                                                                                                                                                    Int)) ∧
                                                                                                                                              ((0 : Int) ≤
                                                                                                                                                    (↑x.k :
                                                                                                                                                      Int) ∧
                                                                                                                                                  (↑x.k : Int) <
                                                                                                                                                    (↑g_1.hi.length :
                                                                                                                                                      Int) →
                                                                                                                                                (0 : Nat) +
                                                                                                                                                      (↑x.k :
                                                                                                                                                            Int).toNat *
                                                                                                                                                        (1 :
                                                                                                                                                          Nat) <
                                                                                                                                                    g_1.hi.length ∧
                                                                                                                                                  ((0 : Nat) +
                                                                                                                                                        (↑x.k :
                                                                                                                                                              Int).toNat *
                                                                                                                                                          (1 :
                                                                                                                                                            Nat) <
                                                                                                                                                      g_1.hi.length →
                                                                                                                                                    ∀ (r : Int),
                                                                                                                                                      r =
                                                                                                                                                          Go.IntKind.i64.wrap
                                                                                                                                                            (x.lo.getD
                                                                                                                                                                ((0 :
                                                                                                                                                                    Nat) +
                                                                                                                                                                  (↑x.k :
                                                                                                                                                                        Int).toNat *
                                                                                                                                                                    (1 :
                                                                                                                                                                      Nat))
                                                                                                                                                                (0 :
                                                                                                                                                                  Int) +
                                                                                                                                                              g_1.hi.getD
                                                                                                                                                                ((0 :
                                                                                                                                                                    Nat) +
                                                                                                                                                                  (↑x.k :
                                                                                                                                                                        Int).toNat *
                                                                                                                                                                    (1 :
                                                                                                                                                                      Nat))
                                                                                                                                                                (0 :
                                                                                                                                                                  Int)) →
                                                                                                                                                        ∀
                                                                                                                                                          (r_1 :
                                                                                                                                                            Int),
                                                                                                                                                          r_1 =
                                                                                                                                                              r.tmod
                                                                                                                                                                (2 :
                                                                                                                                                                  Int) →
                                                                                                                                                            ((0 :
                                                                                                                                                                    Int) ≤
                                                                                                                                                                  (↑x.k :
                                                                                                                                                                    Int) ∧
                                                                                                                                                                (↑x.k :
                                                                                                                                                                    Int) <
                                                                                                                                                                  (↑x.lo.length :
                                                                                                                                                                    Int)) ∧
                                                                                                                                                              ((0 :
                                                                                                                                                                      Int) ≤
                                                                                                                                                                    (↑x.k :
                                                                                                                                                                      Int) ∧
                                                                                                                                                                  (↑x.k :
                                                                                                                                                                      Int) <
                                                                                                                                                                    (↑x.lo.length :
                                                                                                                                                                      Int) →
                                                                                                                                                                (0 :
                                                                                                                                                                        Nat) +
                                                                                                                                                                      (↑x.k :
                                                                                                                                                                            Int).toNat *
                                                                                                                                                                        (1 :
                                                                                                                                                                          Nat) <
                                                                                                                                                                    x.lo.length ∧
                                                                                                                                                                  ((0 :
                                                                                                                                                                          Nat) +
                                                                                                                                                                        (↑x.k :
                                                                                                                                                                              Int).toNat *
                                                                                                                                                                          (1 :
                                                                                                                                                                            Nat) <
                                                                                                                                                                      x.lo.length →
                                                                                                                                                                    ∀
                                                                                                                                                                      (r :
                                                                                                                                                                        Int),
                                                                                                                                                                      r =
                                                                                                                                                                          Go.IntKind.i64.wrap
                                                                                                                                                                            ((↑x.k :
                                                                                                                                                                                Int) +
                                                                                                                                                                              (1 :
                                                                                                                                                                                Int)) →
                                                                                                                                                                        ∃
                                                                                                                                                                          (x'
                                                                                                                                                                          :
                                                                                                                                                                          Sw.MixX),
                                                                                                                                                                          (Sw.mixLoop
                                                                                                                                                                                  g_1).inv
                                                                                                                                                                              x' ∧
                                                                                                                                                                            (Sw.mixLoop
                                                                                                                                                                                      g_1).mea
                                                                                                                                                                                  x' <
                                                                                                                                                                                (Sw.mixLoop
                                                                                                                                                                                      g_1).mea
                                                                                                                                                                                  x ∧
                                                                                                                                                                              g_1.xs.length =
                                                                                                                                                                                  g_1.xs.length ∧
                                                                                                                                                                                g_1.xs.length +
                                                                                                                                                                                      g_1.vs.length =
                                                                                                                                                                                    g_1.xs.length +
                                                                                                                                                                                      g_1.vs.length ∧
                                                                                                                                                                                  x'.lo.length =
                                                                                                                                                                                      x.lo.length ∧
                                                                                                                                                                                    x'.lo.length +
                                                                                                                                                                                          g_1.us.length =
                                                                                                                                                                                        x.lo.length +
                                                                                                                                                                                          g_1.us.length ∧
                                                                                                                                                                                      g_1.hi.length =
                                                                                                                                                                                          g_1.hi.length ∧
                                                                                                                                                                                        g_1.hi.length +
                                                                                                                                                                                              g_1.ws.length =
                                                                                                                                                                                            g_1.hi.length +
                                                                                                                                                                                              g_1.ws.length ∧
                                                                                                                                                                                          (↑x'.k :
                                                                                                                                                                                                Int) =
                                                                                                                                                                                              r ∧
                                                                                                                                                                                            (↑g_1.i :
                                                                                                                                                                                                  Int) =
                                                                                                                                                                                                (↑g_1.i :
                                                                                                                                                                                                  Int) ∧
                                                                                                                                                                                              g_1.xs =
                                                                                                                                                                                                  g_1.xs ∧
                                                                                                                                                                                                g_1.xs.length =
                                                                                                                                                                                                    g_1.xs.length ∧
                                                                                                                                                                                                  g_1.vs =
                                                                                                                                                                                                      g_1.vs ∧
                                                                                                                                                                                                    g_1.vs.length =
                                                                                                                                                                                                        g_1.vs.length ∧
                                                                                                                                                                                                      x'.lo =
                                                                                                                                                                                                          x.lo.set
                                                                                                                                                                                                            ((0 :
                                                                                                                                                                                                                Nat) +
                                                                                                                                                                                                              (↑x.k :
                                                                                                                                                                                                                    Int).toNat *
                                                                                                                                                                                                                (1 :
                                                                                                                                                                                                                  Nat))
                                                                                                                                                                                                            r_1 ∧
                                                                                                                                                                                                        x'.lo.length =
                                                                                                                                                                                                            x.lo.length ∧
                                                                                                                                                                                                          g_1.us =
                                                                                                                                                                                                              g_1.us ∧
                                                                                                                                                                                                            g_1.us.length =
                                                                                                                                                                                                                g_1.us.length ∧
                                                                                                                                                                                                              g_1.hi =
                                                                                                                                                                                                                  g_1.hi ∧
                                                                                                                                                                                                                g_1.hi.length =
                                                                                                                                                                                                                    g_1.hi.length ∧
                                                                                                                                                                                                                  g_1.ws =
                                                                                                                                                                                                                      g_1.ws ∧
                                                                                                                                                                                                                    g_1.ws.length =
                                                                                                                                                                                                                        g_1.ws.length ∧
                                                                                                                                                                                                                      Vx.Sub
                                                                                                                                                                                                                          ((Sw.mixLoop
                                                                                                                                                                                                                                g_1).G
                                                                                                                                                                                                                            x')
                                                                                                                                                                                                                          g_1.G ∧
                                                                                                                                                                                                                        True))))))) ∧
                                                                                                                                  (Decidable.decide
                                                                                                                                        ((↑x.k : Int) <
                                                                                                                                          (64 : Int)) =
                                                                                                                                      Bool.false →
                                                                                                                                    ∃ (x_3 : Sw.ListX),
                                                                                                                                      x_3.xs.length =
                                                                                                                                          x.lo.length ∧
                                                                                                                                        x_3.xs.length +
                                                                                                                                              x_3.vs.length =
                                                                                                                                            x.lo.length +
                                                                                                                                              g_1.us.length ∧
                                                                                                                                          x_3.xs = x.lo ∧
                                                                                                                                            x_3.xs.length =
                                                                                                                                                x.lo.length ∧
                                                                                                                                              x_3.vs = g_1.us ∧
                                                                                                                                                x_3.vs.length =
                                                                                                                                                    g_1.us.length ∧
                                                                                                                                                  Vx.Sub
                                                                                                                                                      (Sw.conWord.G
                                                                                                                                                        x_3)
                                                                                                                                                      g_1.G ∧
                                                                                                                                                    Sw.conWord.pre
                                                                                                                                                        x_3 ∧
                                                                                                                                                      ∀
                                                                                                                                                        (y :
                                                                                                                                                          Int),
                                                                                                                                                        Sw.conWord.post
                                                                                                                                                            x_3
                                                                                                                                                            y →
                                                                                                                                                          ∀
                                                                                                                                                            (r :
                                                                                                                                                              Int),
                                                                                                                                                            r =
                                                                                                                                                                Go.IntKind.u64.wrap
                                                                                                                                                                  (y *
                                                                                                                                                                    (16777619 :
                                                                                                                                                                      Int)) →
                                                                                                                                                              ∀
                                                                                                                                                                (r_1 :
                                                                                                                                                                  Int),
                                                                                                                                                                r_1 =
                                                                                                                                                                    r.tmod
                                                                                                                                                                      (4294967296 :
                                                                                                                                                                        Int) →
                                                                                                                                                                  ∀
                                                                                                                                                                    (r :
                                                                                                                                                                      Int),
                                                                                                                                                                    r =
                                                                                                                                                                        Go.IntKind.i64.wrap
                                                                                                                                                                          ((↑g_1.i :
                                                                                                                                                                              Int) +
                                                                                                                                                                            (1 :
                                                                                                                                                                              Int)) →
                                                                                                                                                                      ∃
                                                                                                                                                                        (x'
                                                                                                                                                                        :
                                                                                                                                                                        Sw.IW),
                                                                                                                                                                        (Sw.checkL
                                                                                                                                                                                g).inv
                                                                                                                                                                            x' ∧
                                                                                                                                                                          (Sw.checkL
                                                                                                                                                                                    g).mea
                                                                                                                                                                                x' <
                                                                                                                                                                              (Sw.checkL
                                                                                                                                                                                    g).mea
                                                                                                                                                                                x_1 ∧
                                                                                                                                                                            g.xs.length =
                                                                                                                                                                                g_1.xs.length ∧
                                                                                                                                                                              g.xs.length +
                                                                                                                                                                                    g.vs.length =
                                                                                                                                                                                  g_1.xs.length +
                                                                                                                                                                                    g_1.vs.length ∧
                                                                                                                                                                                (↑x'.i :
                                                                                                                                                                                      Int) =
                                                                                                                                                                                    r ∧
                                                                                                                                                                                  x'.w =
                                                                                                                                                                                      r_1 ∧
                                                                                                                                                                                    g.xs =
                                                                                                                                                                                        g_1.xs ∧
                                                                                                                                                                                      g.xs.length =
                                                                                                                                                                                          g_1.xs.length ∧
                                                                                                                                                                                        g.vs =
                                                                                                                                                                                            g_1.vs ∧
                                                                                                                                                                                          g.vs.length =
                                                                                                                                                                                              g_1.vs.length ∧
                                                                                                                                                                                            Vx.Sub
                                                                                                                                                                                                ((Sw.checkL
                                                                                                                                                                                                      g).G
                                                                                                                                                                                                  x')
                                                                                                                                                                                                x_3.G ∧
                                                                                                                                                                                              True)))) ∧
                                    (Decidable.decide ((↑x_1.i : Int) < (↑g.xs.length : Int)) = Bool.false →
                                      ∃ (y : Int),
                                        Sw.conCheck.post x y ∧
                                          y = x_1.w ∧
                                            x.xs = g.xs ∧
                                              x.xs.length = g.xs.length ∧ x.vs = g.vs ∧ x.vs.length = g.vs.length ∧ Vx.Sub (Sw.conCheck.G' x y) g.G ∧ True)) := by kernel_rfl
end Sw
end
