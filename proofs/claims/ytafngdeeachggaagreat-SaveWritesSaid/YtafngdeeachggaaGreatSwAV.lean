/- What SwA's conditions come to, word for word: made by a program. -/
import Derived.Test.YtafngdeeachggaaGreatSwA
set_option maxRecDepth 100000
set_option linter.unusedVariables false
set_option linter.unusedVariables false
set_option linter.unusedSimpArgs false
namespace Sw
open Go Go.Proofs Vx
theorem sum_vc : (conSum.Vc body44) = (
∀ (x : Sw.ListX),
  Sw.conSum.pre x →
    ∃ (g : Sw.ListX),
      ∃ (x0 : Sw.IW),
        g.xs.length = x.xs.length ∧
          g.xs.length + g.vs.length = x.xs.length + x.vs.length ∧
            (↑g.xs.length : Int) = (↑x.xs.length : Int) ∧
              (↑x0.i : Int) = (0 : Int) ∧
                x0.w = (2166136261 : Int) ∧
                  g.xs = x.xs ∧
                    g.xs.length = x.xs.length ∧
                      g.vs = x.vs ∧
                        g.vs.length = x.vs.length ∧
                          Vx.Sub ((Sw.sumL g).G x0) x.G ∧
                            (Sw.sumL g).inv x0 ∧
                              ∀ (x_1 : Sw.IW),
                                (Sw.sumL g).inv x_1 →
                                  ∀ (d : Nat → Go.Value),
                                    (Decidable.decide ((↑x_1.i : Int) < (↑g.xs.length : Int)) = Bool.true →
                                        ((0 : Int) ≤ (↑x_1.i : Int) ∧ (↑x_1.i : Int) < (↑g.xs.length : Int)) ∧
                                          ((0 : Int) ≤ (↑x_1.i : Int) ∧ (↑x_1.i : Int) < (↑g.xs.length : Int) →
                                            (0 : Nat) + (↑x_1.i : Int).toNat * (1 : Nat) < g.xs.length ∧
                                              ((0 : Nat) + (↑x_1.i : Int).toNat * (1 : Nat) < g.xs.length →
                                                ∀ (r : Int),
                                                  r = Go.IntKind.u64.wrap (g.xs.getD ((0 : Nat) + (↑x_1.i : Int).toNat * (1 : Nat)) (0 : Int)) →
                                                    ∀ (r_1 : Int),
                                                      r_1 = Vx.bits Go.BinOp.xor Go.IntKind.u64 x_1.w r →
                                                        ∀ (r : Int),
                                                          r = Go.IntKind.u64.wrap (r_1 * (16777619 : Int)) →
                                                            ∀ (r_2 : Int),
                                                              r_2 = Vx.bits Go.BinOp.and Go.IntKind.u64 r (4294967295 : Int) →
                                                                ∀ (r : Int),
                                                                  r = Go.IntKind.i64.wrap ((↑x_1.i : Int) + (1 : Int)) →
                                                                    ∃ (x' : Sw.IW),
                                                                      (Sw.sumL g).inv x' ∧
                                                                        (Sw.sumL g).mea x' < (Sw.sumL g).mea x_1 ∧
                                                                          g.xs.length = g.xs.length ∧
                                                                            g.xs.length + g.vs.length = g.xs.length + g.vs.length ∧
                                                                              (↑g.xs.length : Int) = (↑g.xs.length : Int) ∧
                                                                                (↑x'.i : Int) = r ∧
                                                                                  x'.w = r_2 ∧
                                                                                    g.xs = g.xs ∧
                                                                                      g.xs.length = g.xs.length ∧
                                                                                        g.vs = g.vs ∧
                                                                                          g.vs.length = g.vs.length ∧ Vx.Sub ((Sw.sumL g).G x') g.G ∧ True))) ∧
                                      (Decidable.decide ((↑x_1.i : Int) < (↑g.xs.length : Int)) = Bool.false →
                                        ∃ (y : Int),
                                          Sw.conSum.post x y ∧
                                            y = x_1.w ∧
                                              x.xs = g.xs ∧
                                                x.xs.length = g.xs.length ∧ x.vs = g.vs ∧ x.vs.length = g.vs.length ∧ Vx.Sub (Sw.conSum.G' x y) g.G ∧ True)) := by kernel_rfl
theorem numR_vc : (∀ (k : Nat), (conNumR (k + 1)).Vc (body45 k)) = (
∀ (k : Nat) (x : Sw.OutX),
  (Sw.conNumR (k + OfNat.ofNat (1 : Nat))).pre x →
    (Decidable.decide (x.n < (128 : Int)) = Bool.true →
        ∀ (r : Int),
          r = Go.IntKind.u8.wrap x.n →
            x.xs.length + (1 : Nat) ≤ (140737488355328 : Nat) ∧
              (x.xs.length + (1 : Nat) ≤ (140737488355328 : Nat) →
                x.xs.length + (1 : Nat) ≤ (9223372036854775807 : Nat) ∧
                  (x.xs.length + (1 : Nat) ≤ (9223372036854775807 : Nat) →
                    x.xs.length = x.xs.length ∧
                      (x.xs.length = x.xs.length →
                        x.vs.length = x.xs.length + x.vs.length - x.xs.length ∧
                          (x.vs.length = x.xs.length + x.vs.length - x.xs.length →
                            x.xs.length ≤ x.xs.length + x.vs.length ∧
                              (x.xs.length ≤ x.xs.length + x.vs.length →
                                ∀ (c : Nat) (vs : List Go.Value),
                                  x.xs.length + (1 : Nat) ≤ c →
                                    vs.length = (c - (x.xs.length + (1 : Nat))) * (1 : Nat) →
                                      (∀ (v : Go.Value), v ∈ vs → v.oneCell' = Bool.true) →
                                        ∃ (y : Sw.OutY),
                                          (Sw.conNumR (k + OfNat.ofNat (1 : Nat))).post x y ∧
                                            y.xs.length = x.xs.length + (1 : Nat) ∧
                                              y.xs.length + y.vs.length = c ∧
                                                y.xs = x.xs ++ [r] ∧
                                                  y.xs.length = x.xs.length + (1 : Nat) ∧
                                                    y.vs = vs ∧
                                                      y.vs.length = (c - (x.xs.length + (1 : Nat))) * (1 : Nat) ∧
                                                        Vx.Sub ((Sw.conNumR (k + OfNat.ofNat (1 : Nat))).G' x y) x.G ∧ True)))))) ∧
      (Decidable.decide (x.n < (128 : Int)) = Bool.false →
        ∀ (r : Int),
          r = x.n.tmod (128 : Int) →
            ∀ (r_1 : Int),
              r_1 = Go.IntKind.u64.wrap (r + (128 : Int)) →
                ∀ (r : Int),
                  r = Go.IntKind.u8.wrap r_1 →
                    x.xs.length + (1 : Nat) ≤ (140737488355328 : Nat) ∧
                      (x.xs.length + (1 : Nat) ≤ (140737488355328 : Nat) →
                        x.xs.length + (1 : Nat) ≤ (9223372036854775807 : Nat) ∧
                          (x.xs.length + (1 : Nat) ≤ (9223372036854775807 : Nat) →
                            x.xs.length = x.xs.length ∧
                              (x.xs.length = x.xs.length →
                                x.vs.length = x.xs.length + x.vs.length - x.xs.length ∧
                                  (x.vs.length = x.xs.length + x.vs.length - x.xs.length →
                                    x.xs.length ≤ x.xs.length + x.vs.length ∧
                                      (x.xs.length ≤ x.xs.length + x.vs.length →
                                        ∀ (c : Nat) (vs : List Go.Value),
                                          x.xs.length + (1 : Nat) ≤ c →
                                            vs.length = (c - (x.xs.length + (1 : Nat))) * (1 : Nat) →
                                              (∀ (v : Go.Value), v ∈ vs → v.oneCell' = Bool.true) →
                                                ∀ (r_2 : Int),
                                                  r_2 = Go.IntKind.u64.wrap (x.n.tdiv (128 : Int)) →
                                                    ∃ (x_1 : Sw.OutX),
                                                      x_1.xs.length = x.xs.length + (1 : Nat) ∧
                                                        x_1.xs.length + x_1.vs.length = c ∧
                                                          x_1.n = r_2 ∧
                                                            x_1.xs = x.xs ++ [r] ∧
                                                              x_1.xs.length = x.xs.length + (1 : Nat) ∧
                                                                x_1.vs = vs ∧
                                                                  x_1.vs.length = (c - (x.xs.length + (1 : Nat))) * (1 : Nat) ∧
                                                                    Vx.Sub ((Sw.conNumR k).G x_1) x.G ∧
                                                                      (Sw.conNumR k).pre x_1 ∧
                                                                        ∀ (y : Sw.OutY),
                                                                          (Sw.conNumR k).post x_1 y →
                                                                            ∃ (y_1 : Sw.OutY),
                                                                              (Sw.conNumR (k + OfNat.ofNat (1 : Nat))).post x y_1 ∧
                                                                                y_1.xs.length = y.xs.length ∧
                                                                                  y_1.xs.length + y_1.vs.length = y.xs.length + y.vs.length ∧
                                                                                    y_1.xs = y.xs ∧
                                                                                      y_1.xs.length = y.xs.length ∧
                                                                                        y_1.vs = y.vs ∧
                                                                                          y_1.vs.length = y.vs.length ∧
                                                                                            Vx.Sub ((Sw.conNumR (k + OfNat.ofNat (1 : Nat))).G' x y_1) x_1.G ∧
                                                                                              True))))))) := by kernel_rfl
theorem bits_vc : (conBits.Vc body77) = (
∀ (x : Sw.WG),
  Sw.conBits.pre x →
    ∀ (r : Int),
      r = x.w.tmod (2 : Int) →
        ∀ (r_1 : Int),
          r_1 = Go.IntKind.i64.wrap r →
            ∀ (c : Nat) (vs : List Go.Value),
              (1 : Nat) ≤ c →
                vs.length = (c - (1 : Nat)) * (1 : Nat) →
                  (∀ (v : Go.Value), v ∈ vs → v.oneCell' = Bool.true) →
                    ∀ (r : Int),
                      r = Go.IntKind.u64.wrap (x.w.tdiv (2 : Int)) →
                        ∃ (g : Sw.ListX),
                          ∃ (x0 : Sw.BitX),
                            x0.xs.length = (1 : Nat) ∧
                              x0.xs.length + x0.vs.length = c ∧
                                (↑x0.i : Int) = (1 : Int) ∧
                                  x0.w = r ∧
                                    x0.xs = [r_1] ∧
                                      x0.xs.length = (1 : Nat) ∧
                                        x0.vs = vs ∧
                                          x0.vs.length = (c - (1 : Nat)) * (1 : Nat) ∧
                                            Vx.Sub ((Sw.bitL g).G x0) x.G ∧
                                              (Sw.bitL g).inv x0 ∧
                                                ∀ (x_1 : Sw.BitX),
                                                  (Sw.bitL g).inv x_1 →
                                                    ∀ (d : Nat → Go.Value),
                                                      (Decidable.decide ((↑x_1.i : Int) < (64 : Int)) = Bool.true →
                                                          ∀ (r : Int),
                                                            r = x_1.w.tmod (2 : Int) →
                                                              ∀ (r_2 : Int),
                                                                r_2 = Go.IntKind.i64.wrap r →
                                                                  (x_1.xs.length + (1 : Nat)) * (8 : Nat) ≤ (140737488355328 : Nat) ∧
                                                                    ((x_1.xs.length + (1 : Nat)) * (8 : Nat) ≤ (140737488355328 : Nat) →
                                                                      x_1.xs.length + (1 : Nat) ≤ (9223372036854775807 : Nat) ∧
                                                                        (x_1.xs.length + (1 : Nat) ≤ (9223372036854775807 : Nat) →
                                                                          x_1.xs.length = x_1.xs.length ∧
                                                                            (x_1.xs.length = x_1.xs.length →
                                                                              x_1.vs.length = x_1.xs.length + x_1.vs.length - x_1.xs.length ∧
                                                                                (x_1.vs.length = x_1.xs.length + x_1.vs.length - x_1.xs.length →
                                                                                  x_1.xs.length ≤ x_1.xs.length + x_1.vs.length ∧
                                                                                    (x_1.xs.length ≤ x_1.xs.length + x_1.vs.length →
                                                                                      ∀ (c : Nat) (vs : List Go.Value),
                                                                                        x_1.xs.length + (1 : Nat) ≤ c →
                                                                                          vs.length = (c - (x_1.xs.length + (1 : Nat))) * (1 : Nat) →
                                                                                            (∀ (v : Go.Value), v ∈ vs → v.oneCell' = Bool.true) →
                                                                                              ∀ (r : Int),
                                                                                                r = Go.IntKind.u64.wrap (x_1.w.tdiv (2 : Int)) →
                                                                                                  ∀ (r_3 : Int),
                                                                                                    r_3 = Go.IntKind.i64.wrap ((↑x_1.i : Int) + (1 : Int)) →
                                                                                                      ∃ (x' : Sw.BitX),
                                                                                                        (Sw.bitL g).inv x' ∧
                                                                                                          (Sw.bitL g).mea x' < (Sw.bitL g).mea x_1 ∧
                                                                                                            x'.xs.length = x_1.xs.length + (1 : Nat) ∧
                                                                                                              x'.xs.length + x'.vs.length = c ∧
                                                                                                                (↑x'.i : Int) = r_3 ∧
                                                                                                                  x'.w = r ∧
                                                                                                                    x'.xs = x_1.xs ++ [r_2] ∧
                                                                                                                      x'.xs.length = x_1.xs.length + (1 : Nat) ∧
                                                                                                                        x'.vs = vs ∧
                                                                                                                          x'.vs.length =
                                                                                                                              (c -
                                                                                                                                  (x_1.xs.length + (1 : Nat))) *
                                                                                                                                (1 : Nat) ∧
                                                                                                                            Vx.Sub ((Sw.bitL g).G x') g.G ∧
                                                                                                                              True)))))) ∧
                                                        (Decidable.decide ((↑x_1.i : Int) < (64 : Int)) = Bool.false →
                                                          ∃ (y : Sw.OutY),
                                                            Sw.conBits.post x y ∧
                                                              y.xs.length = x_1.xs.length ∧
                                                                y.xs.length + y.vs.length = x_1.xs.length + x_1.vs.length ∧
                                                                  y.xs = x_1.xs ∧
                                                                    y.xs.length = x_1.xs.length ∧
                                                                      y.vs = x_1.vs ∧ y.vs.length = x_1.vs.length ∧ Vx.Sub (Sw.conBits.G' x y) g.G ∧ True)) := by kernel_rfl
theorem word_vc : (conWord.Vc body78) = (
∀ (x : Sw.ListX),
  Sw.conWord.pre x →
    ∀ (r : Int),
      (r =
          bif Bool.true then if (64 : Int) < (↑x.xs.length : Int) then (64 : Int) else (↑x.xs.length : Int)
          else if (64 : Int) > (↑x.xs.length : Int) then (64 : Int) else (↑x.xs.length : Int)) →
        ∀ (r_1 : Int),
          r_1 = Go.IntKind.i64.wrap (r - (1 : Int)) →
            ∃ (g : Sw.ListX),
              ∃ (x0 : Sw.WordX),
                g.xs.length = x.xs.length ∧
                  g.xs.length + g.vs.length = x.xs.length + x.vs.length ∧
                    x0.i = r_1 ∧
                      x0.w = (0 : Int) ∧
                        g.xs = x.xs ∧
                          g.xs.length = x.xs.length ∧
                            g.vs = x.vs ∧
                              g.vs.length = x.vs.length ∧
                                Vx.Sub ((Sw.wordL g).G x0) x.G ∧
                                  (Sw.wordL g).inv x0 ∧
                                    ∀ (x_1 : Sw.WordX),
                                      (Sw.wordL g).inv x_1 →
                                        ∀ (d : Nat → Go.Value),
                                          (Decidable.decide (x_1.i ≥ (0 : Int)) = Bool.true →
                                              ∀ (r : Int),
                                                r = Go.IntKind.u64.wrap (x_1.w * (2 : Int)) →
                                                  ((0 : Int) ≤ x_1.i ∧ x_1.i < (↑g.xs.length : Int)) ∧
                                                    ((0 : Int) ≤ x_1.i ∧ x_1.i < (↑g.xs.length : Int) →
                                                      (0 : Nat) + x_1.i.toNat * (1 : Nat) < g.xs.length ∧
                                                        ((0 : Nat) + x_1.i.toNat * (1 : Nat) < g.xs.length →
                                                          ∀ (r_2 : Int),
                                                            r_2 = Go.IntKind.u64.wrap (g.xs.getD ((0 : Nat) + x_1.i.toNat * (1 : Nat)) (0 : Int)) →
                                                              ∀ (r_3 : Int),
                                                                r_3 = Go.IntKind.u64.wrap (r + r_2) →
                                                                  ∀ (r : Int),
                                                                    r = Go.IntKind.i64.wrap (x_1.i - (1 : Int)) →
                                                                      ∃ (x' : Sw.WordX),
                                                                        (Sw.wordL g).inv x' ∧
                                                                          (Sw.wordL g).mea x' < (Sw.wordL g).mea x_1 ∧
                                                                            g.xs.length = g.xs.length ∧
                                                                              g.xs.length + g.vs.length = g.xs.length + g.vs.length ∧
                                                                                x'.i = r ∧
                                                                                  x'.w = r_3 ∧
                                                                                    g.xs = g.xs ∧
                                                                                      g.xs.length = g.xs.length ∧
                                                                                        g.vs = g.vs ∧
                                                                                          g.vs.length = g.vs.length ∧ Vx.Sub ((Sw.wordL g).G x') g.G ∧ True))) ∧
                                            (Decidable.decide (x_1.i ≥ (0 : Int)) = Bool.false →
                                              ∃ (y : Int),
                                                Sw.conWord.post x y ∧
                                                  y = x_1.w ∧
                                                    x.xs = g.xs ∧
                                                      x.xs.length = g.xs.length ∧
                                                        x.vs = g.vs ∧ x.vs.length = g.vs.length ∧ Vx.Sub (Sw.conWord.G' x y) g.G ∧ True)) := by kernel_rfl
theorem cmp_vc : (conCmp.Vc body13) = (
∀ (x : Sw.TwoX),
  Sw.conCmp.pre x →
    (((↑x.xs.length : Int) != (↑x.ys.length : Int)) = Bool.true →
        ∃ (y : Bool),
          Sw.conCmp.post x y ∧
            y = Bool.false ∧
              x.xs = x.xs ∧
                x.xs.length = x.xs.length ∧
                  x.vs = x.vs ∧
                    x.vs.length = x.vs.length ∧
                      x.ys = x.ys ∧ x.ys.length = x.ys.length ∧ x.ws = x.ws ∧ x.ws.length = x.ws.length ∧ Vx.Sub (Sw.conCmp.G' x y) x.G ∧ True) ∧
      (((↑x.xs.length : Int) != (↑x.ys.length : Int)) = Bool.false →
        ∃ (g : Sw.TwoX),
          ∃ (x0 : Nat),
            g.xs.length = x.xs.length ∧
              g.xs.length + g.vs.length = x.xs.length + x.vs.length ∧
                g.ys.length = x.ys.length ∧
                  g.ys.length + g.ws.length = x.ys.length + x.ws.length ∧
                    (↑x0 : Int) = (0 : Int) ∧
                      g.xs = x.xs ∧
                        g.xs.length = x.xs.length ∧
                          g.vs = x.vs ∧
                            g.vs.length = x.vs.length ∧
                              g.ys = x.ys ∧
                                g.ys.length = x.ys.length ∧
                                  g.ws = x.ws ∧
                                    g.ws.length = x.ws.length ∧
                                      Vx.Sub ((Sw.cmpL g).G x0) x.G ∧
                                        (Sw.cmpL g).inv x0 ∧
                                          ∀ (x_1 : Nat),
                                            (Sw.cmpL g).inv x_1 →
                                              ∀ (d : Nat → Go.Value),
                                                (Decidable.decide ((↑x_1 : Int) < (↑g.xs.length : Int)) = Bool.true →
                                                    ((0 : Int) ≤ (↑x_1 : Int) ∧ (↑x_1 : Int) < (↑g.xs.length : Int)) ∧
                                                      ((0 : Int) ≤ (↑x_1 : Int) ∧ (↑x_1 : Int) < (↑g.xs.length : Int) →
                                                        (0 : Nat) + (↑x_1 : Int).toNat * (1 : Nat) < g.xs.length ∧
                                                          ((0 : Nat) + (↑x_1 : Int).toNat * (1 : Nat) < g.xs.length →
                                                            ((0 : Int) ≤ (↑x_1 : Int) ∧ (↑x_1 : Int) < (↑g.ys.length : Int)) ∧
                                                              ((0 : Int) ≤ (↑x_1 : Int) ∧ (↑x_1 : Int) < (↑g.ys.length : Int) →
                                                                (0 : Nat) + (↑x_1 : Int).toNat * (1 : Nat) < g.ys.length ∧
                                                                  ((0 : Nat) + (↑x_1 : Int).toNat * (1 : Nat) < g.ys.length →
                                                                    ((g.xs.getD ((0 : Nat) + (↑x_1 : Int).toNat * (1 : Nat)) (0 : Int) !=
                                                                            g.ys.getD ((0 : Nat) + (↑x_1 : Int).toNat * (1 : Nat)) (0 : Int)) =
                                                                          Bool.true →
                                                                        ∃ (y : Bool),
                                                                          Sw.conCmp.post x y ∧
                                                                            y = Bool.false ∧
                                                                              x.xs = g.xs ∧
                                                                                x.xs.length = g.xs.length ∧
                                                                                  x.vs = g.vs ∧
                                                                                    x.vs.length = g.vs.length ∧
                                                                                      x.ys = g.ys ∧
                                                                                        x.ys.length = g.ys.length ∧
                                                                                          x.ws = g.ws ∧
                                                                                            x.ws.length = g.ws.length ∧ Vx.Sub (Sw.conCmp.G' x y) g.G ∧ True) ∧
                                                                      ((g.xs.getD ((0 : Nat) + (↑x_1 : Int).toNat * (1 : Nat)) (0 : Int) !=
                                                                            g.ys.getD ((0 : Nat) + (↑x_1 : Int).toNat * (1 : Nat)) (0 : Int)) =
                                                                          Bool.false →
                                                                        ∀ (r : Int),
                                                                          r = Go.IntKind.i64.wrap ((↑x_1 : Int) + (1 : Int)) →
                                                                            ∃ (x' : Nat),
                                                                              (Sw.cmpL g).inv x' ∧
                                                                                (Sw.cmpL g).mea x' < (Sw.cmpL g).mea x_1 ∧
                                                                                  g.xs.length = g.xs.length ∧
                                                                                    g.xs.length + g.vs.length = g.xs.length + g.vs.length ∧
                                                                                      g.ys.length = g.ys.length ∧
                                                                                        g.ys.length + g.ws.length = g.ys.length + g.ws.length ∧
                                                                                          (↑x' : Int) = r ∧
                                                                                            g.xs = g.xs ∧
                                                                                              g.xs.length = g.xs.length ∧
                                                                                                g.vs = g.vs ∧
                                                                                                  g.vs.length = g.vs.length ∧
                                                                                                    g.ys = g.ys ∧
                                                                                                      g.ys.length = g.ys.length ∧
                                                                                                        g.ws = g.ws ∧
                                                                                                          g.ws.length = g.ws.length ∧
                                                                                                            Vx.Sub ((Sw.cmpL g).G x') g.G ∧ True)))))) ∧
                                                  (Decidable.decide ((↑x_1 : Int) < (↑g.xs.length : Int)) = Bool.false →
                                                    ∃ (y : Bool),
                                                      Sw.conCmp.post x y ∧
                                                        y = Bool.true ∧
                                                          x.xs = g.xs ∧
                                                            x.xs.length = g.xs.length ∧
                                                              x.vs = g.vs ∧
                                                                x.vs.length = g.vs.length ∧
                                                                  x.ys = g.ys ∧
                                                                    x.ys.length = g.ys.length ∧
                                                                      x.ws = g.ws ∧ x.ws.length = g.ws.length ∧ Vx.Sub (Sw.conCmp.G' x y) g.G ∧ True))) := by kernel_rfl
end Sw
