/- What SwRec's conditions come to, word for word: made by a program. -/
import Derived.Test.YtafngdeeachggaaGreatSwRec
set_option maxRecDepth 100000
set_option linter.unusedVariables false
set_option linter.unusedVariables false
set_option linter.unusedSimpArgs false
namespace Sw
open Go Go.Proofs Vx
theorem few_vc : (conFew.Vc body11) = (
∀ (x : Sw.RecX),
  Sw.conFew.pre x →
    (Decidable.decide ((↑x.il : Int) > (3000 : Int)) = Bool.true → ∃ (y : Bool), Sw.conFew.post x y ∧ y = Bool.false ∧ Vx.Sub (Sw.conFew.G' x y) x.G ∧ True) ∧
      (Decidable.decide ((↑x.il : Int) > (3000 : Int)) = Bool.false →
        (Decidable.decide ((↑x.dl : Int) > (3000 : Int)) = Bool.true →
            ∃ (y : Bool), Sw.conFew.post x y ∧ y = Bool.false ∧ Vx.Sub (Sw.conFew.G' x y) x.G ∧ True) ∧
          (Decidable.decide ((↑x.dl : Int) > (3000 : Int)) = Bool.false →
            (Decidable.decide ((↑x.name.size : Int) > (100 : Int)) = Bool.true →
                ∃ (y : Bool), Sw.conFew.post x y ∧ y = Bool.false ∧ Vx.Sub (Sw.conFew.G' x y) x.G ∧ True) ∧
              (Decidable.decide ((↑x.name.size : Int) > (100 : Int)) = Bool.false →
                (Decidable.decide ((↑x.el : Int) > (14 : Int)) = Bool.true →
                    ∃ (y : Bool), Sw.conFew.post x y ∧ y = Bool.false ∧ Vx.Sub (Sw.conFew.G' x y) x.G ∧ True) ∧
                  (Decidable.decide ((↑x.el : Int) > (14 : Int)) = Bool.false →
                    (Decidable.decide (x.sec > (64 : Int)) = Bool.true →
                        (Decidable.decide (x.sec ≤ (65536 : Int)) = Bool.true →
                            ∃ (y : Bool), Sw.conFew.post x y ∧ y = Bool.false ∧ Vx.Sub (Sw.conFew.G' x y) x.G ∧ True) ∧
                          (Decidable.decide (x.sec ≤ (65536 : Int)) = Bool.false →
                            ∃ (g : Sw.RecX),
                              ∃ (x0 : Sw.RecI),
                                (↑x0.i : Int) = (0 : Int) ∧
                                  g.ram = x.ram ∧
                                    g.sec = x.sec ∧
                                      g.locked = x.locked ∧
                                        g.dp = x.dp ∧
                                          g.dl = x.dl ∧
                                            g.dc = x.dc ∧
                                              g.ip = x.ip ∧
                                                g.il = x.il ∧
                                                  g.ic = x.ic ∧
                                                    g.name = x.name ∧
                                                      g.ep = x.ep ∧
                                                        g.el = x.el ∧
                                                          g.ec = x.ec ∧
                                                            Vx.Sub ((Sw.fewL g).G x0) x.G ∧
                                                              (Sw.fewL g).inv x0 ∧
                                                                ∀ (x_1 : Sw.RecI),
                                                                  (Sw.fewL g).inv x_1 →
                                                                    ∀ (d : Nat → Go.Value),
                                                                      (Decidable.decide ((↑x_1.i : Int) < (↑g.el : Int)) = Bool.true →
                                                                          ((0 : Int) ≤ (↑x_1.i : Int) ∧ (↑x_1.i : Int) < (↑g.el : Int)) ∧
                                                                            ((0 : Int) ≤ (↑x_1.i : Int) ∧ (↑x_1.i : Int) < (↑g.el : Int) →
                                                                              ∃ (b : Nat),
                                                                                ∃ (o : Nat),
                                                                                  g.ep = Option.some { block := b, off := o } ∧
                                                                                    ∃ (x_2 : Int),
                                                                                      ∃ (x_3 : Int),
                                                                                        ∃ (a : Option Go.Addr),
                                                                                          ∃ (l : Nat),
                                                                                            ∃ (c : Nat),
                                                                                              Vx.Rd g.G b (o + (↑x_1.i : Int).toNat * (3 : Nat))
                                                                                                  [Go.Value.int Go.IntKind.i64 x_2,
                                                                                                    Go.Value.int Go.IntKind.u64 x_3, Go.Value.slice a l c] ∧
                                                                                                (Decidable.decide ((↑l : Int) > (200 : Int)) = Bool.true →
                                                                                                    ∃ (y : Bool),
                                                                                                      Sw.conFew.post x y ∧
                                                                                                        y = Bool.false ∧ Vx.Sub (Sw.conFew.G' x y) g.G ∧ True) ∧
                                                                                                  (Decidable.decide ((↑l : Int) > (200 : Int)) = Bool.false →
                                                                                                    ((x_2 == (1 : Int)) = Bool.true →
                                                                                                        (Decidable.decide (x_3 > (40 : Int)) = Bool.true →
                                                                                                            (Decidable.decide (x_3 ≤ (65536 : Int)) =
                                                                                                                  Bool.true →
                                                                                                                ∃ (y : Bool),
                                                                                                                  Sw.conFew.post x y ∧
                                                                                                                    y = Bool.false ∧
                                                                                                                      Vx.Sub (Sw.conFew.G' x y) g.G ∧ True) ∧
                                                                                                              (Decidable.decide (x_3 ≤ (65536 : Int)) =
                                                                                                                  Bool.false →
                                                                                                                ∀ (r : Int),
                                                                                                                  r =
                                                                                                                      Go.IntKind.i64.wrap
                                                                                                                        ((↑x_1.i : Int) + (1 : Int)) →
                                                                                                                    ∃ (x' : Sw.RecI),
                                                                                                                      (Sw.fewL g).inv x' ∧
                                                                                                                        (Sw.fewL g).mea x' <
                                                                                                                            (Sw.fewL g).mea x_1 ∧
                                                                                                                          (↑x'.i : Int) = r ∧
                                                                                                                            g.ram = g.ram ∧
                                                                                                                              g.sec = g.sec ∧
                                                                                                                                g.locked = g.locked ∧
                                                                                                                                  g.dp = g.dp ∧
                                                                                                                                    g.dl = g.dl ∧
                                                                                                                                      g.dc = g.dc ∧
                                                                                                                                        g.ip = g.ip ∧
                                                                                                                                          g.il = g.il ∧
                                                                                                                                            g.ic = g.ic ∧
                                                                                                                                              g.name = g.name ∧
                                                                                                                                                g.ep = g.ep ∧
                                                                                                                                                  g.el = g.el ∧
                                                                                                                                                    g.ec =
                                                                                                                                                        g.ec ∧
                                                                                                                                                      Vx.Sub
                                                                                                                                                          ((Sw.fewL
                                                                                                                                                                g).G
                                                                                                                                                            x')
                                                                                                                                                          g.G ∧
                                                                                                                                                        True)) ∧
                                                                                                          (Decidable.decide (x_3 > (40 : Int)) = Bool.false →
                                                                                                            ∀ (r : Int),
                                                                                                              r =
                                                                                                                  Go.IntKind.i64.wrap
                                                                                                                    ((↑x_1.i : Int) + (1 : Int)) →
                                                                                                                ∃ (x' : Sw.RecI),
                                                                                                                  (Sw.fewL g).inv x' ∧
                                                                                                                    (Sw.fewL g).mea x' < (Sw.fewL g).mea x_1 ∧
                                                                                                                      (↑x'.i : Int) = r ∧
                                                                                                                        g.ram = g.ram ∧
                                                                                                                          g.sec = g.sec ∧
                                                                                                                            g.locked = g.locked ∧
                                                                                                                              g.dp = g.dp ∧
                                                                                                                                g.dl = g.dl ∧
                                                                                                                                  g.dc = g.dc ∧
                                                                                                                                    g.ip = g.ip ∧
                                                                                                                                      g.il = g.il ∧
                                                                                                                                        g.ic = g.ic ∧
                                                                                                                                          g.name = g.name ∧
                                                                                                                                            g.ep = g.ep ∧
                                                                                                                                              g.el = g.el ∧
                                                                                                                                                g.ec = g.ec ∧
                                                                                                                                                  Vx.Sub
                                                                                                                                                      ((Sw.fewL
                                                                                                                                                            g).G
                                                                                                                                                        x')
                                                                                                                                                      g.G ∧
                                                                                                                                                    True)) ∧
                                                                                                      ((x_2 == (1 : Int)) = Bool.false →
                                                                                                        ∀ (r : Int),
                                                                                                          r = Go.IntKind.i64.wrap ((↑x_1.i : Int) + (1 : Int)) →
                                                                                                            ∃ (x' : Sw.RecI),
                                                                                                              (Sw.fewL g).inv x' ∧
                                                                                                                (Sw.fewL g).mea x' < (Sw.fewL g).mea x_1 ∧
                                                                                                                  (↑x'.i : Int) = r ∧
                                                                                                                    g.ram = g.ram ∧
                                                                                                                      g.sec = g.sec ∧
                                                                                                                        g.locked = g.locked ∧
                                                                                                                          g.dp = g.dp ∧
                                                                                                                            g.dl = g.dl ∧
                                                                                                                              g.dc = g.dc ∧
                                                                                                                                g.ip = g.ip ∧
                                                                                                                                  g.il = g.il ∧
                                                                                                                                    g.ic = g.ic ∧
                                                                                                                                      g.name = g.name ∧
                                                                                                                                        g.ep = g.ep ∧
                                                                                                                                          g.el = g.el ∧
                                                                                                                                            g.ec = g.ec ∧
                                                                                                                                              Vx.Sub
                                                                                                                                                  ((Sw.fewL g).G
                                                                                                                                                    x')
                                                                                                                                                  g.G ∧
                                                                                                                                                True)))) ∧
                                                                        (Decidable.decide ((↑x_1.i : Int) < (↑g.el : Int)) = Bool.false →
                                                                          ∃ (y : Bool),
                                                                            Sw.conFew.post x y ∧ y = Bool.true ∧ Vx.Sub (Sw.conFew.G' x y) g.G ∧ True))) ∧
                      (Decidable.decide (x.sec > (64 : Int)) = Bool.false →
                        ∃ (g : Sw.RecX),
                          ∃ (x0 : Sw.RecI),
                            (↑x0.i : Int) = (0 : Int) ∧
                              g.ram = x.ram ∧
                                g.sec = x.sec ∧
                                  g.locked = x.locked ∧
                                    g.dp = x.dp ∧
                                      g.dl = x.dl ∧
                                        g.dc = x.dc ∧
                                          g.ip = x.ip ∧
                                            g.il = x.il ∧
                                              g.ic = x.ic ∧
                                                g.name = x.name ∧
                                                  g.ep = x.ep ∧
                                                    g.el = x.el ∧
                                                      g.ec = x.ec ∧
                                                        Vx.Sub ((Sw.fewL g).G x0) x.G ∧
                                                          (Sw.fewL g).inv x0 ∧
                                                            ∀ (x_1 : Sw.RecI),
                                                              (Sw.fewL g).inv x_1 →
                                                                ∀ (d : Nat → Go.Value),
                                                                  (Decidable.decide ((↑x_1.i : Int) < (↑g.el : Int)) = Bool.true →
                                                                      ((0 : Int) ≤ (↑x_1.i : Int) ∧ (↑x_1.i : Int) < (↑g.el : Int)) ∧
                                                                        ((0 : Int) ≤ (↑x_1.i : Int) ∧ (↑x_1.i : Int) < (↑g.el : Int) →
                                                                          ∃ (b : Nat),
                                                                            ∃ (o : Nat),
                                                                              g.ep = Option.some { block := b, off := o } ∧
                                                                                ∃ (x_2 : Int),
                                                                                  ∃ (x_3 : Int),
                                                                                    ∃ (a : Option Go.Addr),
                                                                                      ∃ (l : Nat),
                                                                                        ∃ (c : Nat),
                                                                                          Vx.Rd g.G b (o + (↑x_1.i : Int).toNat * (3 : Nat))
                                                                                              [Go.Value.int Go.IntKind.i64 x_2, Go.Value.int Go.IntKind.u64 x_3,
                                                                                                Go.Value.slice a l c] ∧
                                                                                            (Decidable.decide ((↑l : Int) > (200 : Int)) = Bool.true →
                                                                                                ∃ (y : Bool),
                                                                                                  Sw.conFew.post x y ∧
                                                                                                    y = Bool.false ∧ Vx.Sub (Sw.conFew.G' x y) g.G ∧ True) ∧
                                                                                              (Decidable.decide ((↑l : Int) > (200 : Int)) = Bool.false →
                                                                                                ((x_2 == (1 : Int)) = Bool.true →
                                                                                                    (Decidable.decide (x_3 > (40 : Int)) = Bool.true →
                                                                                                        (Decidable.decide (x_3 ≤ (65536 : Int)) = Bool.true →
                                                                                                            ∃ (y : Bool),
                                                                                                              Sw.conFew.post x y ∧
                                                                                                                y = Bool.false ∧
                                                                                                                  Vx.Sub (Sw.conFew.G' x y) g.G ∧ True) ∧
                                                                                                          (Decidable.decide (x_3 ≤ (65536 : Int)) = Bool.false →
                                                                                                            ∀ (r : Int),
                                                                                                              r =
                                                                                                                  Go.IntKind.i64.wrap
                                                                                                                    ((↑x_1.i : Int) + (1 : Int)) →
                                                                                                                ∃ (x' : Sw.RecI),
                                                                                                                  (Sw.fewL g).inv x' ∧
                                                                                                                    (Sw.fewL g).mea x' < (Sw.fewL g).mea x_1 ∧
                                                                                                                      (↑x'.i : Int) = r ∧
                                                                                                                        g.ram = g.ram ∧
                                                                                                                          g.sec = g.sec ∧
                                                                                                                            g.locked = g.locked ∧
                                                                                                                              g.dp = g.dp ∧
                                                                                                                                g.dl = g.dl ∧
                                                                                                                                  g.dc = g.dc ∧
                                                                                                                                    g.ip = g.ip ∧
                                                                                                                                      g.il = g.il ∧
                                                                                                                                        g.ic = g.ic ∧
                                                                                                                                          g.name = g.name ∧
                                                                                                                                            g.ep = g.ep ∧
                                                                                                                                              g.el = g.el ∧
                                                                                                                                                g.ec = g.ec ∧
                                                                                                                                                  Vx.Sub
                                                                                                                                                      ((Sw.fewL
                                                                                                                                                            g).G
                                                                                                                                                        x')
                                                                                                                                                      g.G ∧
                                                                                                                                                    True)) ∧
                                                                                                      (Decidable.decide (x_3 > (40 : Int)) = Bool.false →
                                                                                                        ∀ (r : Int),
                                                                                                          r = Go.IntKind.i64.wrap ((↑x_1.i : Int) + (1 : Int)) →
                                                                                                            ∃ (x' : Sw.RecI),
                                                                                                              (Sw.fewL g).inv x' ∧
                                                                                                                (Sw.fewL g).mea x' < (Sw.fewL g).mea x_1 ∧
                                                                                                                  (↑x'.i : Int) = r ∧
                                                                                                                    g.ram = g.ram ∧
                                                                                                                      g.sec = g.sec ∧
                                                                                                                        g.locked = g.locked ∧
                                                                                                                          g.dp = g.dp ∧
                                                                                                                            g.dl = g.dl ∧
                                                                                                                              g.dc = g.dc ∧
                                                                                                                                g.ip = g.ip ∧
                                                                                                                                  g.il = g.il ∧
                                                                                                                                    g.ic = g.ic ∧
                                                                                                                                      g.name = g.name ∧
                                                                                                                                        g.ep = g.ep ∧
                                                                                                                                          g.el = g.el ∧
                                                                                                                                            g.ec = g.ec ∧
                                                                                                                                              Vx.Sub
                                                                                                                                                  ((Sw.fewL g).G
                                                                                                                                                    x')
                                                                                                                                                  g.G ∧
                                                                                                                                                True)) ∧
                                                                                                  ((x_2 == (1 : Int)) = Bool.false →
                                                                                                    ∀ (r : Int),
                                                                                                      r = Go.IntKind.i64.wrap ((↑x_1.i : Int) + (1 : Int)) →
                                                                                                        ∃ (x' : Sw.RecI),
                                                                                                          (Sw.fewL g).inv x' ∧
                                                                                                            (Sw.fewL g).mea x' < (Sw.fewL g).mea x_1 ∧
                                                                                                              (↑x'.i : Int) = r ∧
                                                                                                                g.ram = g.ram ∧
                                                                                                                  g.sec = g.sec ∧
                                                                                                                    g.locked = g.locked ∧
                                                                                                                      g.dp = g.dp ∧
                                                                                                                        g.dl = g.dl ∧
                                                                                                                          g.dc = g.dc ∧
                                                                                                                            g.ip = g.ip ∧
                                                                                                                              g.il = g.il ∧
                                                                                                                                g.ic = g.ic ∧
                                                                                                                                  g.name = g.name ∧
                                                                                                                                    g.ep = g.ep ∧
                                                                                                                                      g.el = g.el ∧
                                                                                                                                        g.ec = g.ec ∧
                                                                                                                                          Vx.Sub
                                                                                                                                              ((Sw.fewL g).G x')
                                                                                                                                              g.G ∧
                                                                                                                                            True)))) ∧
                                                                    (Decidable.decide ((↑x_1.i : Int) < (↑g.el : Int)) = Bool.false →
                                                                      ∃ (y : Bool),
                                                                        Sw.conFew.post x y ∧ y = Bool.true ∧ Vx.Sub (Sw.conFew.G' x y) g.G ∧ True))))))) := by kernel_rfl
theorem kinds_vc : (conKinds.Vc body12) = (
∀ (x : Sw.RecX),
  Sw.conKinds.pre x →
    ∃ (g : Sw.RecX),
      ∃ (x0 : Sw.RecI),
        (↑x0.i : Int) = (0 : Int) ∧
          g.ram = x.ram ∧
            g.sec = x.sec ∧
              g.locked = x.locked ∧
                g.dp = x.dp ∧
                  g.dl = x.dl ∧
                    g.dc = x.dc ∧
                      g.ip = x.ip ∧
                        g.il = x.il ∧
                          g.ic = x.ic ∧
                            g.name = x.name ∧
                              g.ep = x.ep ∧
                                g.el = x.el ∧
                                  g.ec = x.ec ∧
                                    Vx.Sub ((Sw.kindsL g).G x0) x.G ∧
                                      (Sw.kindsL g).inv x0 ∧
                                        ∀ (x_1 : Sw.RecI),
                                          (Sw.kindsL g).inv x_1 →
                                            ∀ (d : Nat → Go.Value),
                                              (Decidable.decide ((↑x_1.i : Int) < (↑g.el : Int)) = Bool.true →
                                                  ((0 : Int) ≤ (↑x_1.i : Int) ∧ (↑x_1.i : Int) < (↑g.el : Int)) ∧
                                                    ((0 : Int) ≤ (↑x_1.i : Int) ∧ (↑x_1.i : Int) < (↑g.el : Int) →
                                                      ∃ (b : Nat),
                                                        ∃ (o : Nat),
                                                          g.ep = Option.some { block := b, off := o } ∧
                                                            ∃ (x_2 : Int),
                                                              Vx.Rd g.G b (o + (↑x_1.i : Int).toNat * (3 : Nat) + (0 : Nat)) [Go.Value.int Go.IntKind.i64 x_2] ∧
                                                                (Decidable.decide (x_2 < (0 : Int)) = Bool.true →
                                                                    ∃ (y : Bool),
                                                                      Sw.conKinds.post x y ∧ y = Bool.false ∧ Vx.Sub (Sw.conKinds.G' x y) g.G ∧ True) ∧
                                                                  (Decidable.decide (x_2 < (0 : Int)) = Bool.false →
                                                                    ((0 : Int) ≤ (↑x_1.i : Int) ∧ (↑x_1.i : Int) < (↑g.el : Int)) ∧
                                                                      ((0 : Int) ≤ (↑x_1.i : Int) ∧ (↑x_1.i : Int) < (↑g.el : Int) →
                                                                        ∃ (b : Nat),
                                                                          ∃ (o : Nat),
                                                                            g.ep = Option.some { block := b, off := o } ∧
                                                                              ∃ (x_3 : Int),
                                                                                Vx.Rd g.G b (o + (↑x_1.i : Int).toNat * (3 : Nat) + (0 : Nat))
                                                                                    [Go.Value.int Go.IntKind.i64 x_3] ∧
                                                                                  (Decidable.decide (x_3 > (255 : Int)) = Bool.true →
                                                                                      ∃ (y : Bool),
                                                                                        Sw.conKinds.post x y ∧
                                                                                          y = Bool.false ∧ Vx.Sub (Sw.conKinds.G' x y) g.G ∧ True) ∧
                                                                                    (Decidable.decide (x_3 > (255 : Int)) = Bool.false →
                                                                                      ∀ (r : Int),
                                                                                        r = Go.IntKind.i64.wrap ((↑x_1.i : Int) + (1 : Int)) →
                                                                                          ∃ (x' : Sw.RecI),
                                                                                            (Sw.kindsL g).inv x' ∧
                                                                                              (Sw.kindsL g).mea x' < (Sw.kindsL g).mea x_1 ∧
                                                                                                (↑x'.i : Int) = r ∧
                                                                                                  g.ram = g.ram ∧
                                                                                                    g.sec = g.sec ∧
                                                                                                      g.locked = g.locked ∧
                                                                                                        g.dp = g.dp ∧
                                                                                                          g.dl = g.dl ∧
                                                                                                            g.dc = g.dc ∧
                                                                                                              g.ip = g.ip ∧
                                                                                                                g.il = g.il ∧
                                                                                                                  g.ic = g.ic ∧
                                                                                                                    g.name = g.name ∧
                                                                                                                      g.ep = g.ep ∧
                                                                                                                        g.el = g.el ∧
                                                                                                                          g.ec = g.ec ∧
                                                                                                                            Vx.Sub ((Sw.kindsL g).G x') g.G ∧
                                                                                                                              True))))) ∧
                                                (Decidable.decide ((↑x_1.i : Int) < (↑g.el : Int)) = Bool.false →
                                                  ∃ (y : Bool), Sw.conKinds.post x y ∧ y = Bool.true ∧ Vx.Sub (Sw.conKinds.G' x y) g.G ∧ True)) := by kernel_rfl
end Sw
