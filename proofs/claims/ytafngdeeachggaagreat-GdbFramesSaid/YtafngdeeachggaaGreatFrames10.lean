/- What this text proves, part by part: gdb.Frame, gdb.Unframe and the document's Frame: what they do. What GdFrame's conditions come to, word for word: made by a program. gdb.Frame and the document's do what is said. What the model answers for at once: internal/bytealg.IndexByteString. inst.table: its rows. inst.table, inst.Decode of one word: what they do. inst.Decode of one word (addi x1, x0, 5): what it does. What InDec's conditions come to, word for word: made by a program. What InTabC's conditions come to, word for word: made by a program. inst.table does what is said. inst.Decode of one word does what is said. The awake function 29 (F25): followed as it is. What GdAw's conditions come to, word for word: made by a program. Calls, each by what it does. The awake function 29 answers true: what its calls need. The awake function of gdb's laws answers true. The laws GdbHex and GdbFrames; gdb.Unframe and what it calls. What GdLaw's conditions come to, word for word: made by a program. No condition is added. -/
import Derived.Lib.Bytealg
import Derived.Test.YtafngdeeachggaaGreatFrames01
import Derived.Test.YtafngdeeachggaaGreatFrames02
import Derived.Test.YtafngdeeachggaaGreatFrames03
import Derived.Test.YtafngdeeachggaaGreatFrames04
import Derived.Test.YtafngdeeachggaaGreatFrames05
import Derived.Test.YtafngdeeachggaaGreatFrames06
import Derived.Test.YtafngdeeachggaaGreatFrames07
import Derived.Test.YtafngdeeachggaaGreatFrames08
import Derived.Test.YtafngdeeachggaaGreatFrames09
set_option linter.unusedVariables false
set_option linter.unusedSimpArgs false
section
/- gdb.Frame, gdb.Unframe and the document's Frame: what they do. -/
namespace Sw
set_option maxRecDepth 100000
open Go Go.Proofs Vx

def isSp (c : Int) : Bool := c == 35 || c == 36 || c == 125 || c == 42
/-- Bit 5 the other way round. -/
def turn5 (c : Int) : Int := if c / 32 % 2 = 1 then c - 32 else c + 32
def escL : List Int → List Int
  | [] => []
  | c :: r => (if isSp c then [125, turn5 c] else [c]) ++ escL r
def frameL (d : List Int) : List Int := 36 :: (escL d ++ 35 :: hexL [sumS (escL d)])
def spS : PureS where
  a := .cons (.int .u8) .nil
  pre x := IsByte (x.i 0)
  res x := .bool (isSp (x.i 0))
noncomputable def body71 : SpecT := body (fun _ => noSpec) (fun _ bx => iter bx 0) 71
def turnS : PureS where
  a := .cons (.int .u8) .nil
  pre x := IsByte (x.i 0)
  res x := .int .u8 (turn5 (x.i 0))
noncomputable def body72 : SpecT := body (fun _ => noSpec) (fun _ bx => iter bx 0) 72
def conFrame : Con where
  X := StrX
  n := 0
  args x := [.str (.v x.s)]
  heap _ := []
  G x := x.G
  pre x := x.s.size ≤ 10000
  Y := ByteArray
  m := 0
  post x y := y = strOf (frameL (bytesOf x.s))
  res _ y := .str (.v y)
  heap' _ _ := []
  G' x _ := x.G
structure FrameI where
  i : Nat
  vs : List Value
def frameLoop (x : StrX) : LoopS where
  X := FrameI
  f := 0
  m := 1
  tmps z := [(0, .str (.v x.s)), (3, obs 0 (escL ((bytesOf x.s).take z.i)) z.vs), (7, .int .i64 (.v x.s.size)), (8, .int .i64 (.v z.i))]
  heap z := [(0, obh .u8 5 (escL ((bytesOf x.s).take z.i)) z.vs)]
  G _ := x.G
  inv z := z.i ≤ x.s.size ∧ x.s.size ≤ 10000
  mea z := x.s.size - z.i
noncomputable def call33 (f : Nat) : SpecT := bif Nat.beq f 71 then spS.spec else bif Nat.beq f 30 then conSumS.spec else bif Nat.beq f 27 then lendA 0 conHex.spec else noSpec
noncomputable def body33 : SpecT := body call33 (fun _ => famL frameLoop) 33
structure RFrameI where
  i : Nat
  s : ByteArray
def rframeLoop (x : StrX) : LoopS where
  X := RFrameI
  f := 0
  m := 0
  tmps z := [(0, .str (.v x.s)), (3, .str (.v z.s)), (4, .int .i64 (.v z.i))]
  heap _ := []
  G _ := x.G
  inv z := z.i ≤ x.s.size ∧ x.s.size ≤ 10000 ∧ z.s = strOf (escL ((bytesOf x.s).take z.i))
  mea z := x.s.size - z.i
noncomputable def call34 (f : Nat) : SpecT := bif Nat.beq f 72 then turnS.spec else bif Nat.beq f 31 then conSumS.spec else bif Nat.beq f 29 then lendA 0 conHex.spec else noSpec
noncomputable def body34 : SpecT := body call34 (fun _ => famL rframeLoop) 34
end Sw
end
section
/- What GdFrame's conditions come to, word for word: made by a program. -/
set_option maxRecDepth 100000
set_option linter.unusedVariables false
namespace Sw
open Go Go.Proofs Vx
theorem spS_vc : (spS.Vc body71) = (
∀ (x : Vx.PX), Sw.spS.pre x →
 ∀ (hp : Vx.Hp), ((x.i (0 : Nat) == (35 : Int)) = Bool.true → Sw.isSp (x.i (0 : Nat)) = Bool.true ∧ hp = hp) ∧
 ((x.i (0 : Nat) == (35 : Int)) = Bool.false →
 ((x.i (0 : Nat) == (36 : Int)) = Bool.true → Sw.isSp (x.i (0 : Nat)) = Bool.true ∧ hp = hp) ∧
 ((x.i (0 : Nat) == (36 : Int)) = Bool.false →
 ((x.i (0 : Nat) == (125 : Int)) = Bool.true → Sw.isSp (x.i (0 : Nat)) = Bool.true ∧ hp = hp) ∧
 ((x.i (0 : Nat) == (125 : Int)) = Bool.false → Sw.isSp (x.i (0 : Nat)) = (x.i (0 : Nat) == (42 : Int)) ∧ hp = hp)))) := by kernel_rfl
theorem turnS_vc : (turnS.Vc body72) = (
∀ (x : Vx.PX), Sw.turnS.pre x →
 ∀ (hp : Vx.Hp) (r : Int), r = Go.IntKind.u8.wrap ((x.i (0 : Nat)).tdiv (32 : Int)) →
 ∀ (r_1 : Int), r_1 = r.tmod (2 : Int) →
 ((r_1 == (1 : Int)) = Bool.true → ∀ (r : Int), r = Go.IntKind.u8.wrap (x.i (0 : Nat) - (32 : Int)) → Sw.turn5 (x.i (0 : Nat)) = r ∧ hp = hp) ∧
 ((r_1 == (1 : Int)) = Bool.false → ∀ (r : Int), r = Go.IntKind.u8.wrap (x.i (0 : Nat) + (32 : Int)) → Sw.turn5 (x.i (0 : Nat)) = r ∧ hp = hp)) := by kernel_rfl
theorem frame_vc : (conFrame.Vc body33) = (
∀ (x : Sw.StrX), Sw.conFrame.pre x →
 ∃ (g : Sw.StrX), ∃ (x0 : Sw.FrameI), g.s = x.s ∧
 (Sw.escL (List.take x0.i (Vx.bytesOf g.s))).length = (0 : Nat) ∧
 (Sw.escL (List.take x0.i (Vx.bytesOf g.s))).length + x0.vs.length = (0 : Nat) ∧
 (↑g.s.size : Int) = (↑x.s.size : Int) ∧
 (↑x0.i : Int) = (0 : Int) ∧
 Sw.escL (List.take x0.i (Vx.bytesOf g.s)) = [] ∧
 (Sw.escL (List.take x0.i (Vx.bytesOf g.s))).length = (0 : Nat) ∧
 x0.vs = [] ∧
 x0.vs.length = (0 : Nat) ∧
 Vx.Sub ((Sw.frameLoop g).G x0) x.G ∧
 (Sw.frameLoop g).inv x0 ∧
 ∀ (x_1 : Sw.FrameI), (Sw.frameLoop g).inv x_1 →
 ∀ (d : Nat → Go.Value), (Decidable.decide ((↑x_1.i : Int) < (↑g.s.size : Int)) = Bool.true →
 ((0 : Int) ≤ (↑x_1.i : Int) ∧ (↑x_1.i : Int) < (↑g.s.size : Int)) ∧
 ((0 : Int) ≤ (↑x_1.i : Int) ∧ (↑x_1.i : Int) < (↑g.s.size : Int) →
 Sw.IsByte (Vx.byteAt g.s (↑x_1.i : Int)) ∧
 (Sw.IsByte (Vx.byteAt g.s (↑x_1.i : Int)) →
 ∀ (r : Bool), r = Sw.isSp (Vx.byteAt g.s (↑x_1.i : Int)) →
 (r = Bool.true →
 ((0 : Int) ≤ (↑x_1.i : Int) ∧ (↑x_1.i : Int) < (↑g.s.size : Int)) ∧
 ((0 : Int) ≤ (↑x_1.i : Int) ∧ (↑x_1.i : Int) < (↑g.s.size : Int) →
 ∀ (r : Int), r = Vx.bits Go.BinOp.xor Go.IntKind.u8 (Vx.byteAt g.s (↑x_1.i : Int)) (32 : Int) →
 (Sw.escL (List.take x_1.i (Vx.bytesOf g.s))).length + (2 : Nat) ≤ (140737488355328 : Nat) ∧
 ((Sw.escL (List.take x_1.i (Vx.bytesOf g.s))).length + (2 : Nat) ≤ (140737488355328 : Nat) →
 (Sw.escL (List.take x_1.i (Vx.bytesOf g.s))).length + (2 : Nat) ≤
 (9223372036854775807 : Nat) ∧
 ((Sw.escL (List.take x_1.i (Vx.bytesOf g.s))).length + (2 : Nat) ≤
 (9223372036854775807 : Nat) →
 (Sw.escL (List.take x_1.i (Vx.bytesOf g.s))).length =
 (Sw.escL (List.take x_1.i (Vx.bytesOf g.s))).length ∧
 ((Sw.escL (List.take x_1.i (Vx.bytesOf g.s))).length =
 (Sw.escL (List.take x_1.i (Vx.bytesOf g.s))).length →
 x_1.vs.length =
 (Sw.escL (List.take x_1.i (Vx.bytesOf g.s))).length + x_1.vs.length -
 (Sw.escL (List.take x_1.i (Vx.bytesOf g.s))).length ∧
 (x_1.vs.length =
 (Sw.escL (List.take x_1.i (Vx.bytesOf g.s))).length + x_1.vs.length -
 (Sw.escL (List.take x_1.i (Vx.bytesOf g.s))).length →
 (Sw.escL (List.take x_1.i (Vx.bytesOf g.s))).length ≤
 (Sw.escL (List.take x_1.i (Vx.bytesOf g.s))).length + x_1.vs.length ∧
 ((Sw.escL (List.take x_1.i (Vx.bytesOf g.s))).length ≤
 (Sw.escL (List.take x_1.i (Vx.bytesOf g.s))).length + x_1.vs.length →
 ∀ (c : Nat) (vs : List Go.Value), (Sw.escL (List.take x_1.i (Vx.bytesOf g.s))).length + (2 : Nat) ≤ c →
 vs.length =
 (c -
 ((Sw.escL (List.take x_1.i (Vx.bytesOf g.s))).length +
 (2 : Nat))) *
 (1 : Nat) →
 (∀ (v : Go.Value), v ∈ vs → v.oneCell' = Bool.true) →
 ∀ (r_1 : Int), r_1 = Go.IntKind.i64.wrap ((↑x_1.i : Int) + (1 : Int)) →
 ∃ (x' : Sw.FrameI), (Sw.frameLoop g).inv x' ∧
 (Sw.frameLoop g).mea x' < (Sw.frameLoop g).mea x_1 ∧
 g.s = g.s ∧
 (Sw.escL (List.take x'.i (Vx.bytesOf g.s))).length =
 (Sw.escL
 (List.take x_1.i (Vx.bytesOf g.s))).length +
 (2 : Nat) ∧
 (Sw.escL (List.take x'.i (Vx.bytesOf g.s))).length +
 x'.vs.length =
 c ∧
 (↑g.s.size : Int) = (↑g.s.size : Int) ∧
 (↑x'.i : Int) = r_1 ∧
 Sw.escL (List.take x'.i (Vx.bytesOf g.s)) =
 Sw.escL
 (List.take x_1.i (Vx.bytesOf g.s)) ++
 ([(125 : Int)] ++ [r]) ∧
 (Sw.escL
 (List.take x'.i
 (Vx.bytesOf g.s))).length =
 (Sw.escL
 (List.take x_1.i
 (Vx.bytesOf g.s))).length +
 (2 : Nat) ∧
 x'.vs = vs ∧
 x'.vs.length =
 (c -
 ((Sw.escL
 (List.take x_1.i
 (Vx.bytesOf
 g.s))).length +
 (2 : Nat))) *
 (1 : Nat) ∧
 Vx.Sub ((Sw.frameLoop g).G x') g.G ∧
 True))))))) ∧
 (r = Bool.false →
 ((0 : Int) ≤ (↑x_1.i : Int) ∧ (↑x_1.i : Int) < (↑g.s.size : Int)) ∧
 ((0 : Int) ≤ (↑x_1.i : Int) ∧ (↑x_1.i : Int) < (↑g.s.size : Int) →
 (Sw.escL (List.take x_1.i (Vx.bytesOf g.s))).length + (1 : Nat) ≤ (140737488355328 : Nat) ∧
 ((Sw.escL (List.take x_1.i (Vx.bytesOf g.s))).length + (1 : Nat) ≤ (140737488355328 : Nat) →
 (Sw.escL (List.take x_1.i (Vx.bytesOf g.s))).length + (1 : Nat) ≤ (9223372036854775807 : Nat) ∧
 ((Sw.escL (List.take x_1.i (Vx.bytesOf g.s))).length + (1 : Nat) ≤
 (9223372036854775807 : Nat) →
 (Sw.escL (List.take x_1.i (Vx.bytesOf g.s))).length =
 (Sw.escL (List.take x_1.i (Vx.bytesOf g.s))).length ∧
 ((Sw.escL (List.take x_1.i (Vx.bytesOf g.s))).length =
 (Sw.escL (List.take x_1.i (Vx.bytesOf g.s))).length →
 x_1.vs.length =
 (Sw.escL (List.take x_1.i (Vx.bytesOf g.s))).length + x_1.vs.length -
 (Sw.escL (List.take x_1.i (Vx.bytesOf g.s))).length ∧
 (x_1.vs.length =
 (Sw.escL (List.take x_1.i (Vx.bytesOf g.s))).length + x_1.vs.length -
 (Sw.escL (List.take x_1.i (Vx.bytesOf g.s))).length →
 (Sw.escL (List.take x_1.i (Vx.bytesOf g.s))).length ≤
 (Sw.escL (List.take x_1.i (Vx.bytesOf g.s))).length + x_1.vs.length ∧
 ((Sw.escL (List.take x_1.i (Vx.bytesOf g.s))).length ≤
 (Sw.escL (List.take x_1.i (Vx.bytesOf g.s))).length + x_1.vs.length →
 ∀ (c : Nat) (vs : List Go.Value), (Sw.escL (List.take x_1.i (Vx.bytesOf g.s))).length + (1 : Nat) ≤ c →
 vs.length =
 (c -
 ((Sw.escL (List.take x_1.i (Vx.bytesOf g.s))).length + (1 : Nat))) *
 (1 : Nat) →
 (∀ (v : Go.Value), v ∈ vs → v.oneCell' = Bool.true) →
 ∀ (r : Int), r = Go.IntKind.i64.wrap ((↑x_1.i : Int) + (1 : Int)) →
 ∃ (x' : Sw.FrameI), (Sw.frameLoop g).inv x' ∧
 (Sw.frameLoop g).mea x' < (Sw.frameLoop g).mea x_1 ∧
 g.s = g.s ∧
 (Sw.escL (List.take x'.i (Vx.bytesOf g.s))).length =
 (Sw.escL (List.take x_1.i (Vx.bytesOf g.s))).length +
 (1 : Nat) ∧
 (Sw.escL (List.take x'.i (Vx.bytesOf g.s))).length +
 x'.vs.length =
 c ∧
 (↑g.s.size : Int) = (↑g.s.size : Int) ∧
 (↑x'.i : Int) = r ∧
 Sw.escL (List.take x'.i (Vx.bytesOf g.s)) =
 Sw.escL (List.take x_1.i (Vx.bytesOf g.s)) ++
 [Vx.byteAt g.s (↑x_1.i : Int)] ∧
 (Sw.escL
 (List.take x'.i
 (Vx.bytesOf g.s))).length =
 (Sw.escL
 (List.take x_1.i
 (Vx.bytesOf g.s))).length +
 (1 : Nat) ∧
 x'.vs = vs ∧
 x'.vs.length =
 (c -
 ((Sw.escL
 (List.take x_1.i
 (Vx.bytesOf g.s))).length +
 (1 : Nat))) *
 (1 : Nat) ∧
 Vx.Sub ((Sw.frameLoop g).G x') g.G ∧
 True)))))))))) ∧
 (Decidable.decide ((↑x_1.i : Int) < (↑g.s.size : Int)) = Bool.false →
 (0 : Nat) + (Sw.escL (List.take x_1.i (Vx.bytesOf g.s))).length ≤ (Sw.escL (List.take x_1.i (Vx.bytesOf g.s))).length ∧
 ((0 : Nat) + (Sw.escL (List.take x_1.i (Vx.bytesOf g.s))).length ≤
 (Sw.escL (List.take x_1.i (Vx.bytesOf g.s))).length →
 ∀ (ys : List Int), ys =
 List.take (Sw.escL (List.take x_1.i (Vx.bytesOf g.s))).length
 (List.drop (0 : Nat) (Sw.escL (List.take x_1.i (Vx.bytesOf g.s)))) →
 ∀ (r : ByteArray), r = Vx.strOf (ys ++ []) →
 (↑((1 : Nat) + r.size) : Int) ≤ (9223372036854775807 : Int) ∧
 ∀ (r_1 : ByteArray), r_1 = ByteArray.mk #[36] ++ r →
 (↑(r_1.size + (1 : Nat)) : Int) ≤ (9223372036854775807 : Int) ∧
 ∀ (r_2 : ByteArray), r_2 = r_1 ++ ByteArray.mk #[35] →
 (0 : Nat) + (Sw.escL (List.take x_1.i (Vx.bytesOf g.s))).length ≤
 (Sw.escL (List.take x_1.i (Vx.bytesOf g.s))).length ∧
 ((0 : Nat) + (Sw.escL (List.take x_1.i (Vx.bytesOf g.s))).length ≤
 (Sw.escL (List.take x_1.i (Vx.bytesOf g.s))).length →
 ∀ (ys : List Int), ys =
 List.take (Sw.escL (List.take x_1.i (Vx.bytesOf g.s))).length
 (List.drop (0 : Nat) (Sw.escL (List.take x_1.i (Vx.bytesOf g.s)))) →
 ∀ (r_3 : ByteArray), r_3 = Vx.strOf (ys ++ []) →
 ∃ (x_2 : Sw.StrX), x_2.s = r_3 ∧
 Vx.Sub (Sw.conSumS.G x_2) g.G ∧
 Sw.conSumS.pre x_2 ∧
 ∀ (y : Int), Sw.conSumS.post x_2 y →
 (0 : Nat) + (Sw.escL (List.take x_1.i (Vx.bytesOf g.s))).length ≤
 (Sw.escL (List.take x_1.i (Vx.bytesOf g.s))).length ∧
 ((0 : Nat) + (Sw.escL (List.take x_1.i (Vx.bytesOf g.s))).length ≤
 (Sw.escL (List.take x_1.i (Vx.bytesOf g.s))).length →
 ∀ (ys : List Int), ys =
 List.take (Sw.escL (List.take x_1.i (Vx.bytesOf g.s))).length
 (List.drop (0 : Nat)
 (Sw.escL (List.take x_1.i (Vx.bytesOf g.s)))) →
 ∀ (r_4 : ByteArray), r_4 = Vx.strOf (ys ++ []) →
 r_4 = r ∧
 (0 : Nat) +
 (Sw.escL
 (List.take x_1.i (Vx.bytesOf g.s))).length ≤
 (Sw.escL (List.take x_1.i (Vx.bytesOf g.s))).length ∧
 ((0 : Nat) +
 (Sw.escL
 (List.take x_1.i (Vx.bytesOf g.s))).length ≤
 (Sw.escL
 (List.take x_1.i (Vx.bytesOf g.s))).length →
 ∀ (ys : List Int), ys =
 List.take
 (Sw.escL
 (List.take x_1.i (Vx.bytesOf g.s))).length
 (List.drop (0 : Nat)
 (Sw.escL
 (List.take x_1.i (Vx.bytesOf g.s)))) →
 ∀ (r_5 : ByteArray), r_5 = Vx.strOf (ys ++ []) →
 r_5 = r ∧
 ∀ (a : Nat), x_2.G a = Option.none →
 ∃ (x_3 : Sw.BsX), x_3.p =
 Option.some
 (Go.Addr.mk a (0 : Nat)
 Option.none) ∧
 x_3.l = (1 : Nat) ∧
 x_3.c = (1 : Nat) ∧
 Vx.Sub (Sw.conHex.G x_3)
 (Vx.addG a
 (Go.Obj.cells
 #[Go.Value.int
 Go.IntKind.u8 y]
 (5 : Nat)
 (Vx.fzOf Bool.false
 [Go.Value.int
 Go.IntKind.u8
 y].length))
 x_2.G) ∧
 Sw.conHex.pre x_3 ∧
 ∀ (y_1 : ByteArray), Sw.conHex.post x_3 y_1 →
 x_3.G a =
 Option.some
 (Go.Obj.cells
 #[Go.Value.int
 Go.IntKind.u8
 y]
 (5 : Nat)
 (Vx.fzOf
 Bool.false
 [Go.Value.int
 Go.IntKind.u8
 y].length)) ∧
 (0 : Nat) +
 (Sw.escL
 (List.take
 x_1.i
 (Vx.bytesOf
 g.s))).length ≤
 (Sw.escL
 (List.take
 x_1.i
 (Vx.bytesOf
 g.s))).length ∧
 ((0 : Nat) +
 (Sw.escL
 (List.take
 x_1.i
 (Vx.bytesOf
 g.s))).length ≤
 (Sw.escL
 (List.take
 x_1.i
 (Vx.bytesOf
 g.s))).length →
 ∀ (ys : List Int), ys =
 List.take
 (Sw.escL
 (List.take
 x_1.i
 (Vx.bytesOf
 g.s))).length
 (List.drop
 (0 :
 Nat)
 (Sw.escL
 (List.take
 x_1.i
 (Vx.bytesOf
 g.s)))) →
 ∀
 (r_6 :
 ByteArray), r_6 =
 Vx.strOf
 (ys ++
 []) →
 r_6 = r ∧
 (↑(r_2.size +
 y_1.size) :
 Int) ≤
 (9223372036854775807 :
 Int) ∧
 ∀
 (r :
 ByteArray), r =
 r_2 ++
 y_1 →
 ∃
 (y
 :
 ByteArray), Sw.conFrame.post
 x
 y ∧
 y =
 r ∧
 Vx.Sub
 (Sw.conFrame.G'
 x
 y)
 (Vx.remG
 a
 x_3.G) ∧
 True))))))) := by kernel_rfl
theorem rframe_vc : (conFrame.Vc body34) = (
∀ (x : Sw.StrX), Sw.conFrame.pre x →
 ∃ (g : Sw.StrX), ∃ (x0 : Sw.RFrameI), g.s = x.s ∧
 x0.s = ByteArray.mk #[] ∧
 (↑x0.i : Int) = (0 : Int) ∧
 Vx.Sub ((Sw.rframeLoop g).G x0) x.G ∧
 (Sw.rframeLoop g).inv x0 ∧
 ∀ (x_1 : Sw.RFrameI), (Sw.rframeLoop g).inv x_1 →
 ∀ (d : Nat → Go.Value), (Decidable.decide ((↑x_1.i : Int) < (↑g.s.size : Int)) = Bool.true →
 ((0 : Int) ≤ (↑x_1.i : Int) ∧ (↑x_1.i : Int) < (↑g.s.size : Int)) ∧
 ((0 : Int) ≤ (↑x_1.i : Int) ∧ (↑x_1.i : Int) < (↑g.s.size : Int) →
 ((Vx.byteAt g.s (↑x_1.i : Int) == (35 : Int)) = Bool.true →
 (↑(x_1.s.size + (1 : Nat)) : Int) ≤ (9223372036854775807 : Int) ∧
 ∀ (r : ByteArray), r = x_1.s ++ ByteArray.mk #[125] →
 Sw.IsByte (Vx.byteAt g.s (↑x_1.i : Int)) ∧
 (Sw.IsByte (Vx.byteAt g.s (↑x_1.i : Int)) →
 ∀ (r_1 : Int), r_1 = Sw.turn5 (Vx.byteAt g.s (↑x_1.i : Int)) →
 ∀ (r_2 : ByteArray), r_2 = Vx.strOf [r_1] →
 (↑(r.size + r_2.size) : Int) ≤ (9223372036854775807 : Int) ∧
 ∀ (r_3 : ByteArray), r_3 = r ++ r_2 →
 ∀ (r : Int), r = Go.IntKind.i64.wrap ((↑x_1.i : Int) + (1 : Int)) →
 ∃ (x' : Sw.RFrameI), (Sw.rframeLoop g).inv x' ∧
 (Sw.rframeLoop g).mea x' < (Sw.rframeLoop g).mea x_1 ∧
 g.s = g.s ∧
 x'.s = r_3 ∧ (↑x'.i : Int) = r ∧ Vx.Sub ((Sw.rframeLoop g).G x') g.G ∧ True)) ∧
 ((Vx.byteAt g.s (↑x_1.i : Int) == (35 : Int)) = Bool.false →
 ((Vx.byteAt g.s (↑x_1.i : Int) == (36 : Int)) = Bool.true →
 (↑(x_1.s.size + (1 : Nat)) : Int) ≤ (9223372036854775807 : Int) ∧
 ∀ (r : ByteArray), r = x_1.s ++ ByteArray.mk #[125] →
 Sw.IsByte (Vx.byteAt g.s (↑x_1.i : Int)) ∧
 (Sw.IsByte (Vx.byteAt g.s (↑x_1.i : Int)) →
 ∀ (r_1 : Int), r_1 = Sw.turn5 (Vx.byteAt g.s (↑x_1.i : Int)) →
 ∀ (r_2 : ByteArray), r_2 = Vx.strOf [r_1] →
 (↑(r.size + r_2.size) : Int) ≤ (9223372036854775807 : Int) ∧
 ∀ (r_3 : ByteArray), r_3 = r ++ r_2 →
 ∀ (r : Int), r = Go.IntKind.i64.wrap ((↑x_1.i : Int) + (1 : Int)) →
 ∃ (x' : Sw.RFrameI), (Sw.rframeLoop g).inv x' ∧
 (Sw.rframeLoop g).mea x' < (Sw.rframeLoop g).mea x_1 ∧
 g.s = g.s ∧
 x'.s = r_3 ∧ (↑x'.i : Int) = r ∧ Vx.Sub ((Sw.rframeLoop g).G x') g.G ∧ True)) ∧
 ((Vx.byteAt g.s (↑x_1.i : Int) == (36 : Int)) = Bool.false →
 ((Vx.byteAt g.s (↑x_1.i : Int) == (125 : Int)) = Bool.true →
 (↑(x_1.s.size + (1 : Nat)) : Int) ≤ (9223372036854775807 : Int) ∧
 ∀ (r : ByteArray), r = x_1.s ++ ByteArray.mk #[125] →
 Sw.IsByte (Vx.byteAt g.s (↑x_1.i : Int)) ∧
 (Sw.IsByte (Vx.byteAt g.s (↑x_1.i : Int)) →
 ∀ (r_1 : Int), r_1 = Sw.turn5 (Vx.byteAt g.s (↑x_1.i : Int)) →
 ∀ (r_2 : ByteArray), r_2 = Vx.strOf [r_1] →
 (↑(r.size + r_2.size) : Int) ≤ (9223372036854775807 : Int) ∧
 ∀ (r_3 : ByteArray), r_3 = r ++ r_2 →
 ∀ (r : Int), r = Go.IntKind.i64.wrap ((↑x_1.i : Int) + (1 : Int)) →
 ∃ (x' : Sw.RFrameI), (Sw.rframeLoop g).inv x' ∧
 (Sw.rframeLoop g).mea x' < (Sw.rframeLoop g).mea x_1 ∧
 g.s = g.s ∧
 x'.s = r_3 ∧ (↑x'.i : Int) = r ∧ Vx.Sub ((Sw.rframeLoop g).G x') g.G ∧ True)) ∧
 ((Vx.byteAt g.s (↑x_1.i : Int) == (125 : Int)) = Bool.false →
 ((Vx.byteAt g.s (↑x_1.i : Int) == (42 : Int)) = Bool.true →
 (↑(x_1.s.size + (1 : Nat)) : Int) ≤ (9223372036854775807 : Int) ∧
 ∀ (r : ByteArray), r = x_1.s ++ ByteArray.mk #[125] →
 Sw.IsByte (Vx.byteAt g.s (↑x_1.i : Int)) ∧
 (Sw.IsByte (Vx.byteAt g.s (↑x_1.i : Int)) →
 ∀ (r_1 : Int), r_1 = Sw.turn5 (Vx.byteAt g.s (↑x_1.i : Int)) →
 ∀ (r_2 : ByteArray), r_2 = Vx.strOf [r_1] →
 (↑(r.size + r_2.size) : Int) ≤ (9223372036854775807 : Int) ∧
 ∀ (r_3 : ByteArray), r_3 = r ++ r_2 →
 ∀ (r : Int), r = Go.IntKind.i64.wrap ((↑x_1.i : Int) + (1 : Int)) →
 ∃ (x' : Sw.RFrameI), (Sw.rframeLoop g).inv x' ∧
 (Sw.rframeLoop g).mea x' < (Sw.rframeLoop g).mea x_1 ∧
 g.s = g.s ∧
 x'.s = r_3 ∧
 (↑x'.i : Int) = r ∧ Vx.Sub ((Sw.rframeLoop g).G x') g.G ∧ True)) ∧
 ((Vx.byteAt g.s (↑x_1.i : Int) == (42 : Int)) = Bool.false →
 ∀ (r : Int), r = Go.IntKind.i64.wrap ((↑x_1.i : Int) + (1 : Int)) →
 ((0 : Int) ≤ r ∧ r ≤ (↑g.s.size : Int)) ∧
 ((0 : Int) ≤ r ∧ r ≤ (↑g.s.size : Int) →
 ((0 : Int) ≤ (↑x_1.i : Int) ∧ (↑x_1.i : Int) ≤ (↑r.toNat : Int)) ∧
 ((0 : Int) ≤ (↑x_1.i : Int) ∧ (↑x_1.i : Int) ≤ (↑r.toNat : Int) →
 ∀ (r_1 : ByteArray), r_1 = g.s.extract (↑x_1.i : Int).toNat r.toNat →
 (↑(x_1.s.size + r_1.size) : Int) ≤ (9223372036854775807 : Int) ∧
 ∀ (r : ByteArray), r = x_1.s ++ r_1 →
 ∀ (r_2 : Int), r_2 = Go.IntKind.i64.wrap ((↑x_1.i : Int) + (1 : Int)) →
 ∃ (x' : Sw.RFrameI), (Sw.rframeLoop g).inv x' ∧
 (Sw.rframeLoop g).mea x' < (Sw.rframeLoop g).mea x_1 ∧
 g.s = g.s ∧
 x'.s = r ∧
 (↑x'.i : Int) = r_2 ∧ Vx.Sub ((Sw.rframeLoop g).G x') g.G ∧ True)))))))) ∧
 (Decidable.decide ((↑x_1.i : Int) < (↑g.s.size : Int)) = Bool.false →
 (↑((1 : Nat) + x_1.s.size) : Int) ≤ (9223372036854775807 : Int) ∧
 ∀ (r : ByteArray), r = ByteArray.mk #[36] ++ x_1.s →
 (↑(r.size + (1 : Nat)) : Int) ≤ (9223372036854775807 : Int) ∧
 ∀ (r_1 : ByteArray), r_1 = r ++ ByteArray.mk #[35] →
 ∃ (x_2 : Sw.StrX), x_2.s = x_1.s ∧
 Vx.Sub (Sw.conSumS.G x_2) g.G ∧
 Sw.conSumS.pre x_2 ∧
 ∀ (y : Int), Sw.conSumS.post x_2 y →
 ∀ (a : Nat), x_2.G a = Option.none →
 ∃ (x_3 : Sw.BsX), x_3.p = Option.some (Go.Addr.mk a (0 : Nat) Option.none) ∧
 x_3.l = (1 : Nat) ∧
 x_3.c = (1 : Nat) ∧
 Vx.Sub (Sw.conHex.G x_3)
 (Vx.addG a
 (Go.Obj.cells #[Go.Value.int Go.IntKind.u8 y] (5 : Nat)
 (Vx.fzOf Bool.false [Go.Value.int Go.IntKind.u8 y].length))
 x_2.G) ∧
 Sw.conHex.pre x_3 ∧
 ∀ (y_1 : ByteArray), Sw.conHex.post x_3 y_1 →
 x_3.G a =
 Option.some
 (Go.Obj.cells #[Go.Value.int Go.IntKind.u8 y] (5 : Nat)
 (Vx.fzOf Bool.false [Go.Value.int Go.IntKind.u8 y].length)) ∧
 (↑(r_1.size + y_1.size) : Int) ≤ (9223372036854775807 : Int) ∧
 ∀ (r : ByteArray), r = r_1 ++ y_1 →
 ∃ (y : ByteArray), Sw.conFrame.post x y ∧
 y = r ∧ Vx.Sub (Sw.conFrame.G' x y) (Vx.remG a x_3.G) ∧ True)) := by kernel_rfl
end Sw
end
section
/- gdb.Frame and the document's do what is said. -/
namespace Sw
set_option maxRecDepth 100000
open Go Go.Proofs Vx

theorem spS_ok : spS.Vc body71 := by
  rw [spS_vc]
  intro x _ hp
  unfold isSp
  refine ⟨fun h => ⟨by rw [h]; rfl, rfl⟩, fun h => ⟨fun h1 => ⟨by rw [h, h1]; rfl, rfl⟩, fun h1 => ⟨fun h2 => ⟨by rw [h, h1, h2]; rfl, rfl⟩, fun h2 => ⟨by rw [h, h1, h2]; rfl, rfl⟩⟩⟩⟩
theorem spec71 : SpecOk Tryz.prog 71 spS.spec :=
  PureS.sound rfl (fun _ => rfl) (body_ok (fun f => noSpec_ok _ f) (iter_ways 0) (fun vs w => Tryz.call71 vs w)) spS_ok
theorem turnS_ok : turnS.Vc body72 := by
  rw [turnS_vc]
  intro x hx hp r hr r1 hr1
  obtain ⟨h0, h1⟩ := (hx : IsByte (x.i 0))
  rw [Int.tdiv_eq_ediv_of_nonneg h0, IntKind.wrap_u8'] at hr
  rw [Int.tmod_eq_emod_of_nonneg (by omega)] at hr1
  unfold turn5
  refine ⟨fun h r2 hr2 => ⟨?_, rfl⟩, fun h r2 hr2 => ⟨?_, rfl⟩⟩
  · have := eq_b h
    rw [IntKind.wrap_u8'] at hr2
    rw [if_pos (by omega)]; omega
  · have := ne_b h
    rw [IntKind.wrap_u8'] at hr2
    rw [if_neg (by omega)]; omega
theorem spec72 : SpecOk Tryz.prog 72 turnS.spec :=
  PureS.sound rfl (fun _ => rfl) (body_ok (fun f => noSpec_ok _ f) (iter_ways 0) (fun vs w => Tryz.call72 vs w)) turnS_ok

theorem turn5_byte {c : Int} (h : IsByte c) : IsByte (turn5 c) := by
  obtain ⟨h0, h1⟩ := h
  unfold turn5 IsByte
  split <;> omega
theorem xor32 {c : Int} (h : IsByte c) : Vx.bits .xor .u8 c 32 = turn5 c := by
  obtain ⟨h0, h1⟩ := h
  have : ∀ i : Fin 256, Vx.bits .xor .u8 (i.val : Int) 32 = turn5 (i.val : Int) := by decide +kernel
  have := this ⟨c.toNat, by omega⟩
  simp only [] at this
  rwa [show ((c.toNat : Nat) : Int) = c by omega] at this
theorem escL_app : ∀ a b : List Int, escL (a ++ b) = escL a ++ escL b
  | [], b => rfl
  | x :: a, b => by simp only [List.cons_append, escL, escL_app a b, List.append_assoc]
theorem escL_len : ∀ a : List Int, (escL a).length ≤ 2 * a.length
  | [] => Nat.le_refl _
  | x :: a => by
    have := escL_len a
    simp only [escL, List.length_append, List.length_cons]
    split <;> simp <;> omega
theorem escL_byte : ∀ a : List Int, (∀ x ∈ a, IsByte x) → ∀ x ∈ escL a, IsByte x
  | [], _, x, hx => by cases hx
  | c :: r, h, x, hx => by
    have hc := h c List.mem_cons_self
    simp only [escL] at hx
    rcases List.mem_append.1 hx with hx | hx
    · split at hx
      · simp only [List.mem_cons, List.not_mem_nil, or_false] at hx
        rcases hx with rfl | rfl
        · exact ⟨by omega, by omega⟩
        · exact turn5_byte hc
      · rw [List.mem_singleton.1 hx]; exact hc
    · exact escL_byte r (fun y hy => h y (List.mem_cons_of_mem _ hy)) x hx
theorem escL_step (s : ByteArray) (i : Nat) (h : i < s.size) : escL ((bytesOf s).take (i + 1)) = escL ((bytesOf s).take i) ++ (if isSp (byteAt s (i : Int)) then [125, turn5 (byteAt s (i : Int))] else [byteAt s (i : Int)]) := by
  obtain ⟨hl, e⟩ := bytesOf_at s i h
  rw [take_succ' _ _ hl, escL_app, e]
  simp [escL]
theorem byteAt_byte (s : ByteArray) (i : Nat) (h : i < s.size) : IsByte (byteAt s (i : Int)) := by
  rw [byteAt_getD s i h]; exact bytesOf_isByte s i h
theorem bs_one (G : Nat → Option Obj) (a : Nat) (b : Int) (hb : IsByte b) : Bs (addG a (.cells #[Value.int .u8 b] 5 (0, 0)) G) (some ⟨a, 0, none⟩) 1 1 [b] := by
  have := bs_frz G a [b] [] (by intro x hx; rw [List.mem_singleton.1 hx]; exact hb)
  simpa using this
theorem one_byte {b : Int} (hb : IsByte b) : ∀ y ∈ [b], IsByte y := by intro y hy; rw [List.mem_singleton.1 hy]; exact hb
theorem mk36 : ByteArray.mk #[36] = strOf [36] := by decide
theorem mk35 : ByteArray.mk #[35] = strOf [35] := by decide
theorem mk125 : ByteArray.mk #[125] = strOf [125] := by decide
theorem sumS_byte (l : List Int) : IsByte (sumS l) := by
  rcases List.eq_nil_or_concat l with rfl | ⟨l', b, rfl⟩
  · exact ⟨by decide, by decide⟩
  · rw [List.concat_eq_append, sumS, List.foldl_append]
    simp only [List.foldl_cons, List.foldl_nil, IntKind.wrap_u8']
    exact ⟨by omega, by omega⟩
/-- The packet, put together. -/
theorem frame_join {e : List Int} (he : ∀ x ∈ e, IsByte x) {b : Int} (hb : IsByte b) : strOf [36] ++ strOf e ++ strOf [35] ++ strOf (hexL [b]) = strOf (36 :: (e ++ 35 :: hexL [b])) := by
  have h36 : IsByte 36 := ⟨by decide, by decide⟩
  have h35 : IsByte 35 := ⟨by decide, by decide⟩
  have hh := hexL_byte [b] (one_byte hb)
  have happ : ∀ {x y : List Int}, (∀ z ∈ x, IsByte z) → (∀ z ∈ y, IsByte z) → ∀ z ∈ x ++ y, IsByte z := fun hx hy z hz => (List.mem_append.1 hz).elim (hx z) (hy z)
  rw [← strOf_app _ _ (one_byte h36) he, ← strOf_app _ _ (happ (one_byte h36) he) (one_byte h35), ← strOf_app _ _ (happ (happ (one_byte h36) he) (one_byte h35)) hh]
  simp
theorem hexL_one_len (b : Int) : (hexL [b]).length = 2 := rfl
theorem frame_ok : conFrame.Vc body33 := by
  rw [frame_vc]
  intro x hx
  have hx : x.s.size ≤ 10000 := hx
  have hL := bytesOf_length x.s
  refine ⟨x, ⟨0, []⟩, rfl, rfl, rfl, rfl, rfl, rfl, rfl, rfl, rfl, Sub.refl _, ⟨Nat.zero_le _, hx⟩, fun z hz d => ?_⟩
  obtain ⟨h1, _⟩ := (hz : z.i ≤ x.s.size ∧ x.s.size ≤ 10000)
  have hlen : (escL ((bytesOf x.s).take z.i)).length ≤ 20000 := by
    have := escL_len ((bytesOf x.s).take z.i)
    rw [List.length_take, hL] at this; omega
  refine ⟨fun hlt => ?_, fun hge => ?_⟩
  · have hlt := of_decide_eq_true hlt
    have hb := byteAt_byte x.s z.i (by omega)
    have hst := escL_step x.s z.i (by omega)
    refine ok_ (by omega) (ok_ hb fun r hr => ⟨fun hsp => ok_ (by omega) fun r1 hr1 => ?_, fun hsp => ok_ (by omega) ?_⟩)
    · rw [← hr, hsp] at hst
      simp only [if_true] at hst
      rw [xor32 hb] at hr1
      refine ok_ (by omega) (ok_ (by omega) (ok_ rfl (ok_ (by omega) (ok_ (by omega) fun c vs hc hvs hone r2 hr2 => ?_))))
      rw [w64 _ (by omega) (by omega)] at hr2
      refine ⟨⟨z.i + 1, vs⟩, ⟨by show z.i + 1 ≤ x.s.size; omega, hx⟩, ?_, rfl, ?_, ?_, rfl, ?_, ?_, ?_, rfl, hvs, Sub.refl _, trivial⟩
      · show x.s.size - (z.i + 1) < x.s.size - z.i; omega
      · show (escL ((bytesOf x.s).take (z.i + 1))).length = _
        rw [hst]; simp
      · show (escL ((bytesOf x.s).take (z.i + 1))).length + vs.length = c
        rw [hst, hvs]; simp; omega
      · show ((z.i + 1 : Nat) : Int) = r2; omega
      · show escL ((bytesOf x.s).take (z.i + 1)) = _
        rw [hst, hr1]; rfl
      · show (escL ((bytesOf x.s).take (z.i + 1))).length = _
        rw [hst]; simp
    · rw [← hr, hsp] at hst
      simp only [Bool.false_eq_true, if_false] at hst
      refine ok_ (by omega) (ok_ (by omega) (ok_ rfl (ok_ (by omega) (ok_ (by omega) fun c vs hc hvs hone r2 hr2 => ?_))))
      rw [w64 _ (by omega) (by omega)] at hr2
      refine ⟨⟨z.i + 1, vs⟩, ⟨by show z.i + 1 ≤ x.s.size; omega, hx⟩, ?_, rfl, ?_, ?_, rfl, ?_, ?_, ?_, rfl, hvs, Sub.refl _, trivial⟩
      · show x.s.size - (z.i + 1) < x.s.size - z.i; omega
      · show (escL ((bytesOf x.s).take (z.i + 1))).length = _
        rw [hst]; simp
      · show (escL ((bytesOf x.s).take (z.i + 1))).length + vs.length = c
        rw [hst, hvs]; simp; omega
      · show ((z.i + 1 : Nat) : Int) = r2; omega
      · show escL ((bytesOf x.s).take (z.i + 1)) = _
        rw [hst]
      · show (escL ((bytesOf x.s).take (z.i + 1))).length = _
        rw [hst]; simp
  · have hge := of_decide_eq_false hge
    have hall : (bytesOf x.s).take z.i = bytesOf x.s := List.take_of_length_le (by omega)
    rw [hall] at hlen ⊢
    have heb := escL_byte _ (bytesOf_byte x.s)
    have key : ∀ ys : List Int, ys = ((escL (bytesOf x.s)).drop 0).take (escL (bytesOf x.s)).length → ∀ r : ByteArray, r = strOf (ys ++ []) → r = strOf (escL (bytesOf x.s)) := fun ys hys r hr => by
      rw [hr, hys, List.drop_zero, List.take_length, List.append_nil]
    refine ok_ (by omega) fun ys hys r hr => ?_
    have hr := key ys hys r hr
    have hrs : r.size ≤ 20000 := by rw [hr, strOf_len]; exact hlen
    refine ⟨by omega, fun r1 hr1 => ⟨by rw [hr1, mk36]; simp only [ByteArray.size_append, strOf_len, List.length_singleton]; omega, fun r2 hr2 => ok_ (by omega) fun ys' hys' r3 hr3 => ?_⟩⟩
    have hr3 := key ys' hys' r3 hr3
    refine ⟨⟨r3, x.G⟩, rfl, Sub.refl _, ?_, fun y hy => ok_ (by omega) fun ys4 hys4 r4 hr4 => ⟨(key ys4 hys4 r4 hr4).trans hr.symm, ok_ (by omega) fun ys5 hys5 r5 hr5 => ⟨(key ys5 hys5 r5 hr5).trans hr.symm, fun a ha => ?_⟩⟩⟩
    · show r3.size < 9223372036854775808
      rw [hr3, strOf_len]; omega
    have hy : y = sumS (bytesOf r3) := hy
    rw [hr3, bytesOf_strOf _ heb] at hy
    have hyb : IsByte y := by rw [hy]; exact sumS_byte _
    refine ⟨⟨some ⟨a, 0, none⟩, 1, 1, [y], addG a (.cells #[Value.int .u8 y] 5 (0, 0)) x.G⟩, rfl, rfl, rfl, Sub.refl _, ⟨bs_one _ _ _ hyb, (by decide : (1 : Nat) ≤ 1000000)⟩, fun y1 hy1 => ⟨addG_self _ _ _, ok_ (by omega) fun ys6 hys6 r6 hr6 => ⟨(key ys6 hys6 r6 hr6).trans hr.symm, ?_, fun r7 hr7 => ⟨r7, ?_, rfl, ?_, trivial⟩⟩⟩⟩
    · have hy1 : y1 = strOf (hexL [y]) := hy1
      rw [hr2, hr1, hy1, mk36, mk35]
      simp only [ByteArray.size_append, strOf_len, hexL_one_len, List.length_singleton]
      omega
    · show r7 = strOf (frameL (bytesOf x.s))
      have hy1 : y1 = strOf (hexL [y]) := hy1
      rw [hr7, hr2, hr1, hy1, mk36, mk35, hr, frame_join heb hyb, hy]
      rfl
    · show Sub x.G (remG a (addG a _ x.G))
      have ha : x.G a = none := ha
      rw [remG_add ha]; exact Sub.refl _
theorem call33_ok (f : Nat) : SpecOk Tryz.prog f (call33 f) := by
  unfold call33
  cases h : Nat.beq f 71
  · cases h2 : Nat.beq f 30
    · cases h3 : Nat.beq f 27
      · exact noSpec_ok _ f
      · have := beq_t h3
        subst this
        exact lendA_ok (fun vs w => Tryz.call27 vs w) spec27 0
    · have := beq_t h2
      subst this
      exact spec30
  · have := beq_t h
    subst this
    exact spec71
theorem spec33 : SpecOk Tryz.prog 33 conFrame.spec :=
  Con.sound (body_ok call33_ok (fun _ => (famL_ok frameLoop _).ok) (fun vs w => Tryz.call33 vs w)) frame_ok
theorem rframe_ok : conFrame.Vc body34 := by
  rw [rframe_vc]
  intro x hx
  have hx : x.s.size ≤ 10000 := hx
  have hL := bytesOf_length x.s
  refine ⟨x, ⟨0, strOf []⟩, rfl, rfl, rfl, Sub.refl _, ⟨Nat.zero_le _, hx, rfl⟩, fun z hz d => ?_⟩
  obtain ⟨h1, _, h2⟩ := (hz : z.i ≤ x.s.size ∧ x.s.size ≤ 10000 ∧ z.s = strOf (escL ((bytesOf x.s).take z.i)))
  have hlen : (escL ((bytesOf x.s).take z.i)).length ≤ 20000 := by
    have := escL_len ((bytesOf x.s).take z.i)
    rw [List.length_take, hL] at this; omega
  have heb : ∀ y ∈ escL ((bytesOf x.s).take z.i), IsByte y := escL_byte _ fun y hy => bytesOf_byte x.s y (List.mem_of_mem_take hy)
  have hzs : z.s.size ≤ 20000 := by rw [h2, strOf_len]; exact hlen
  refine ⟨fun hlt => ?_, fun hge => ?_⟩
  · have hlt := of_decide_eq_true hlt
    have hb := byteAt_byte x.s z.i (by omega)
    have hst := escL_step x.s z.i (by omega)
    have h125 : IsByte 125 := ⟨by decide, by decide⟩
    have spcase : isSp (byteAt x.s (z.i : Int)) = true →
        ((z.s.size + 1 : Nat) : Int) ≤ 9223372036854775807 ∧ ∀ (r : ByteArray), r = z.s ++ ByteArray.mk #[125] → IsByte (byteAt x.s (z.i : Int)) ∧ (IsByte (byteAt x.s (z.i : Int)) → ∀ (r_1 : Int), r_1 = turn5 (byteAt x.s (z.i : Int)) → ∀ (r_2 : ByteArray), r_2 = strOf [r_1] → ((r.size + r_2.size : Nat) : Int) ≤ 9223372036854775807 ∧ ∀ (r_3 : ByteArray), r_3 = r ++ r_2 → ∀ (r : Int), r = IntKind.i64.wrap ((z.i : Int) + 1) →
          ∃ (x' : Sw.RFrameI), (rframeLoop x).inv x' ∧ (rframeLoop x).mea x' < (rframeLoop x).mea z ∧ x.s = x.s ∧ x'.s = r_3 ∧ (x'.i : Int) = r ∧ Sub ((rframeLoop x).G x') x.G ∧ True) := by
      intro hsp
      rw [hsp] at hst
      simp only [if_true] at hst
      have tb := turn5_byte hb
      refine ⟨by omega, fun r hr => ok_ hb fun r1 hr1 r2 hr2 => ⟨?_, fun r3 hr3 r4 hr4 => ⟨⟨z.i + 1, r3⟩, ⟨by show z.i + 1 ≤ x.s.size; omega, hx, ?_⟩, ?_, rfl, rfl, ?_, Sub.refl _, trivial⟩⟩⟩
      · rw [hr, hr2, mk125]; simp only [ByteArray.size_append, strOf_len, List.length_singleton]; omega
      · show r3 = strOf (escL ((bytesOf x.s).take (z.i + 1)))
        rw [hr3, hr, hr2, h2, mk125, hr1, ← strOf_app _ _ heb (one_byte h125), ← strOf_app _ _ (fun y hy => (List.mem_append.1 hy).elim (heb y) (one_byte h125 y)) (one_byte tb), hst]
        simp
      · show x.s.size - (z.i + 1) < x.s.size - z.i; omega
      · rw [hr4, w64 _ (by omega) (by omega)]; rfl
    have hsp : ∀ k : Int, (byteAt x.s (z.i : Int) == k) = true → k = 35 ∨ k = 36 ∨ k = 125 ∨ k = 42 → isSp (byteAt x.s (z.i : Int)) = true := fun k hk h => by
      have := eq_b hk
      rw [this]
      rcases h with rfl | rfl | rfl | rfl <;> rfl
    refine ok_ (by omega) ⟨fun hk => spcase (hsp _ hk (by simp)), fun k1 => ⟨fun hk => spcase (hsp _ hk (by simp)), fun k2 => ⟨fun hk => spcase (hsp _ hk (by simp)), fun k3 => ⟨fun hk => spcase (hsp _ hk (by simp)), fun k4 r hr => ?_⟩⟩⟩⟩
    have hns : isSp (byteAt x.s (z.i : Int)) = false := by unfold isSp; rw [k1, k2, k3, k4]; rfl
    rw [hns] at hst
    simp only [Bool.false_eq_true, if_false] at hst
    rw [w64 _ (by omega) (by omega)] at hr
    refine ok_ (by omega) (ok_ (by omega) fun r1 hr1 => ?_)
    have e1 : r1 = strOf [byteAt x.s (z.i : Int)] := by
      apply bytesOf_inj
      rw [bytesOf_strOf _ (one_byte hb), hr1, bytesOf_ext]
      obtain ⟨hl, e⟩ := bytesOf_at x.s z.i (by omega)
      have t1 := take_succ' _ _ hl
      have e2 : r.toNat = z.i + 1 := by omega
      have e3 : ((z.i : Int)).toNat = z.i := by omega
      rw [e2, e3, t1, List.drop_append_of_le_length (by simp; omega), List.drop_of_length_le (by rw [List.length_take]; omega), e]
      rfl
    refine ⟨by rw [e1, strOf_len]; simp; omega, fun r2 hr2 r3 hr3 => ⟨⟨z.i + 1, r2⟩, ⟨by show z.i + 1 ≤ x.s.size; omega, hx, ?_⟩, ?_, rfl, rfl, ?_, Sub.refl _, trivial⟩⟩
    · show r2 = strOf (escL ((bytesOf x.s).take (z.i + 1)))
      rw [hr2, h2, e1, ← strOf_app _ _ heb (one_byte hb), hst]
    · show x.s.size - (z.i + 1) < x.s.size - z.i; omega
    · rw [hr3, w64 _ (by omega) (by omega)]; rfl
  · have hge := of_decide_eq_false hge
    have hall : (bytesOf x.s).take z.i = bytesOf x.s := List.take_of_length_le (by omega)
    rw [hall] at h2 hlen heb
    refine ⟨by omega, fun r hr => ⟨by rw [hr, mk36]; simp only [ByteArray.size_append, strOf_len, List.length_singleton]; omega, fun r1 hr1 => ⟨⟨z.s, x.G⟩, rfl, Sub.refl _, ?_, fun y hy a ha => ?_⟩⟩⟩
    · show z.s.size < 9223372036854775808; omega
    have hy : y = sumS (bytesOf z.s) := hy
    rw [h2, bytesOf_strOf _ heb] at hy
    have hyb : IsByte y := by rw [hy]; exact sumS_byte _
    refine ⟨⟨some ⟨a, 0, none⟩, 1, 1, [y], addG a (.cells #[Value.int .u8 y] 5 (0, 0)) x.G⟩, rfl, rfl, rfl, Sub.refl _, ⟨bs_one _ _ _ hyb, (by decide : (1 : Nat) ≤ 1000000)⟩, fun y1 hy1 => ⟨addG_self _ _ _, ?_, fun r7 hr7 => ⟨r7, ?_, rfl, ?_, trivial⟩⟩⟩
    · have hy1 : y1 = strOf (hexL [y]) := hy1
      rw [hr1, hr, hy1, mk36, mk35]
      simp only [ByteArray.size_append, strOf_len, hexL_one_len, List.length_singleton]
      omega
    · show r7 = strOf (frameL (bytesOf x.s))
      have hy1 : y1 = strOf (hexL [y]) := hy1
      rw [hr7, hr1, hr, hy1, mk36, mk35, h2, frame_join heb hyb, hy]
      rfl
    · show Sub x.G (remG a (addG a _ x.G))
      have ha : x.G a = none := ha
      rw [remG_add ha]; exact Sub.refl _
theorem call34_ok (f : Nat) : SpecOk Tryz.prog f (call34 f) := by
  unfold call34
  cases h : Nat.beq f 72
  · cases h2 : Nat.beq f 31
    · cases h3 : Nat.beq f 29
      · exact noSpec_ok _ f
      · have := beq_t h3
        subst this
        exact lendA_ok (fun vs w => Tryz.call29 vs w) spec29 0
    · have := beq_t h2
      subst this
      exact spec31
  · have := beq_t h
    subst this
    exact spec72
theorem spec34 : SpecOk Tryz.prog 34 conFrame.spec :=
  Con.sound (body_ok call34_ok (fun _ => (famL_ok rframeLoop _).ok) (fun vs w => Tryz.call34 vs w)) rframe_ok
end Sw
end
section
/- What the model answers for at once: internal/bytealg.IndexByteString. -/
namespace Sw
set_option maxRecDepth 100000
open Go Go.Proofs Vx

/-- Where a byte stands in a text. -/
def idxB (s : ByteArray) (c : Int) : Int := Go.Lib.indexByte s.data.toList c.toNat.toUInt8
def ext130 : SpecT := fun args hp K => match args with
  | [.str (.lit s), .int .u8 (.lit c)] => K (.int .i64 (.lit (idxB s c))) hp
  | [.str s, .int .u8 c] => ∀ r : Int, r = idxB s.den c.den → K (.int .i64 (.v r)) hp
  | _ => False
theorem run130 (s : ByteArray) (c : Int) (w : World) : (callFunc 130 #[.string s, .int .u8 c]).run Tryz.prog w = .ok (.value (.int .i64 (idxB s c))) w := by
  rw [run_callFunc_extern (e := Extern.BytealgIndexByte.indexByte) Tryz.func130 (by kernel_rfl) (by kernel_rfl) (by kernel_rfl) (by kernel_rfl), Go.Lib.run_indexByteString]
  rfl
theorem ext130_ok : ExtOk Tryz.prog 130 ext130 := by
  intro args hp K h F β w hS hargs
  have key : ∀ (s : SE) (c : IE) (r : SV), args = [.str s, .int .u8 c] → r.one = true → r.wf (β ++ []).length → r.val (β ++ []) = .int .i64 (idxB s.den c.den) → K r hp →
      ∃ v w', (callFunc 130 (args.map (SV.val β)).toArray).run Tryz.prog w = .ok (.value v) w' ∧ Yld F β K v w' := by
    intro s c r ha h1 h2 h3 hK
    subst ha
    exact ⟨_, w, run130 s.den c.den w, [], r, hp, by simpa using hS, h1, h2, h3.symm, hK⟩
  unfold ext130 at h
  split at h
  · rename_i s c
    exact key (.lit s) (.lit c) (.int .i64 (.lit (idxB s c))) rfl rfl trivial rfl h
  · rename_i s c _
    exact key s c (.int .i64 (.v (idxB s.den c.den))) rfl rfl trivial rfl (h _ rfl)
  · exact h.elim
noncomputable def ext (f : Nat) : SpecT := bif Nat.beq f 130 then ext130 else noSpec
theorem ext_ok : CallOk Tryz.prog ext := by
  intro f
  unfold ext
  cases h : Nat.beq f 130
  · exact .inl (noSpec_ok _ f)
  · have := beq_t h
    subst this
    exact .inr ext130_ok
end Sw
end
section
/- inst.table: its rows. -/
namespace Sw
set_option maxRecDepth 100000
open Go Go.Proofs Vx

def tabRow (s : Array UInt8) (f a b c : Int) (r : SV) : SV :=
  .cons (.str (.lit ⟨s⟩)) (.cons (.int .i64 (.lit f)) (.cons (.int .u32 (.lit a)) (.cons (.int .u32 (.lit b)) (.cons (.int .u32 (.lit c)) r))))
def tab : SV :=
  tabRow #[] 0 0 0 0 <|
  tabRow #[108,117,105] 1 55 0 0 <|
  tabRow #[97,117,105,112,99] 1 23 0 0 <|
  tabRow #[106,97,108] 2 111 0 0 <|
  tabRow #[106,97,108,114] 3 103 0 0 <|
  tabRow #[98,101,113] 4 99 0 0 <|
  tabRow #[98,110,101] 4 99 1 0 <|
  tabRow #[98,108,116] 4 99 4 0 <|
  tabRow #[98,103,101] 4 99 5 0 <|
  tabRow #[98,108,116,117] 4 99 6 0 <|
  tabRow #[98,103,101,117] 4 99 7 0 <|
  tabRow #[108,98] 5 3 0 0 <|
  tabRow #[108,104] 5 3 1 0 <|
  tabRow #[108,119] 5 3 2 0 <|
  tabRow #[108,100] 5 3 3 0 <|
  tabRow #[108,98,117] 5 3 4 0 <|
  tabRow #[108,104,117] 5 3 5 0 <|
  tabRow #[108,119,117] 5 3 6 0 <|
  tabRow #[115,98] 6 35 0 0 <|
  tabRow #[115,104] 6 35 1 0 <|
  tabRow #[115,119] 6 35 2 0 <|
  tabRow #[115,100] 6 35 3 0 <|
  tabRow #[97,100,100,105] 3 19 0 0 <|
  tabRow #[115,108,116,105] 3 19 2 0 <|
  tabRow #[115,108,116,105,117] 3 19 3 0 <|
  tabRow #[120,111,114,105] 3 19 4 0 <|
  tabRow #[111,114,105] 3 19 6 0 <|
  tabRow #[97,110,100,105] 3 19 7 0 <|
  tabRow #[115,108,108,105] 7 19 1 0 <|
  tabRow #[115,114,108,105] 7 19 5 0 <|
  tabRow #[115,114,97,105] 7 19 5 32 <|
  tabRow #[97,100,100] 9 51 0 0 <|
  tabRow #[115,117,98] 9 51 0 32 <|
  tabRow #[115,108,108] 9 51 1 0 <|
  tabRow #[115,108,116] 9 51 2 0 <|
  tabRow #[115,108,116,117] 9 51 3 0 <|
  tabRow #[120,111,114] 9 51 4 0 <|
  tabRow #[115,114,108] 9 51 5 0 <|
  tabRow #[115,114,97] 9 51 5 32 <|
  tabRow #[111,114] 9 51 6 0 <|
  tabRow #[97,110,100] 9 51 7 0 <|
  tabRow #[97,100,100,105,119] 3 27 0 0 <|
  tabRow #[115,108,108,105,119] 8 27 1 0 <|
  tabRow #[115,114,108,105,119] 8 27 5 0 <|
  tabRow #[115,114,97,105,119] 8 27 5 32 <|
  tabRow #[97,100,100,119] 9 59 0 0 <|
  tabRow #[115,117,98,119] 9 59 0 32 <|
  tabRow #[115,108,108,119] 9 59 1 0 <|
  tabRow #[115,114,108,119] 9 59 5 0 <|
  tabRow #[115,114,97,119] 9 59 5 32 <|
  tabRow #[102,101,110,99,101] 10 15 0 0 <|
  tabRow #[102,101,110,99,101,46,105] 10 15 1 0 <|
  tabRow #[101,99,97,108,108] 11 115 0 0 <|
  tabRow #[101,98,114,101,97,107] 11 115 0 1 <|
  tabRow #[99,115,114,114,119] 12 115 1 0 <|
  tabRow #[99,115,114,114,115] 12 115 2 0 <|
  tabRow #[99,115,114,114,99] 12 115 3 0 <|
  tabRow #[99,115,114,114,119,105] 13 115 5 0 <|
  tabRow #[99,115,114,114,115,105] 13 115 6 0 <|
  tabRow #[99,115,114,114,99,105] 13 115 7 0 <|
  tabRow #[109,117,108] 9 51 0 1 <|
  tabRow #[109,117,108,104] 9 51 1 1 <|
  tabRow #[109,117,108,104,115,117] 9 51 2 1 <|
  tabRow #[109,117,108,104,117] 9 51 3 1 <|
  tabRow #[100,105,118] 9 51 4 1 <|
  tabRow #[100,105,118,117] 9 51 5 1 <|
  tabRow #[114,101,109] 9 51 6 1 <|
  tabRow #[114,101,109,117] 9 51 7 1 <|
  tabRow #[109,117,108,119] 9 59 0 1 <|
  tabRow #[100,105,118,119] 9 59 4 1 <|
  tabRow #[100,105,118,117,119] 9 59 5 1 <|
  tabRow #[114,101,109,119] 9 59 6 1 <|
  tabRow #[114,101,109,117,119] 9 59 7 1 <|
  tabRow #[108,114,46,119] 14 47 2 2 <|
  tabRow #[115,99,46,119] 15 47 2 3 <|
  tabRow #[97,109,111,115,119,97,112,46,119] 15 47 2 1 <|
  tabRow #[97,109,111,97,100,100,46,119] 15 47 2 0 <|
  tabRow #[97,109,111,120,111,114,46,119] 15 47 2 4 <|
  tabRow #[97,109,111,97,110,100,46,119] 15 47 2 12 <|
  tabRow #[97,109,111,111,114,46,119] 15 47 2 8 <|
  tabRow #[97,109,111,109,105,110,46,119] 15 47 2 16 <|
  tabRow #[97,109,111,109,97,120,46,119] 15 47 2 20 <|
  tabRow #[97,109,111,109,105,110,117,46,119] 15 47 2 24 <|
  tabRow #[97,109,111,109,97,120,117,46,119] 15 47 2 28 <|
  tabRow #[108,114,46,100] 14 47 3 2 <|
  tabRow #[115,99,46,100] 15 47 3 3 <|
  tabRow #[97,109,111,115,119,97,112,46,100] 15 47 3 1 <|
  tabRow #[97,109,111,97,100,100,46,100] 15 47 3 0 <|
  tabRow #[97,109,111,120,111,114,46,100] 15 47 3 4 <|
  tabRow #[97,109,111,97,110,100,46,100] 15 47 3 12 <|
  tabRow #[97,109,111,111,114,46,100] 15 47 3 8 <|
  tabRow #[97,109,111,109,105,110,46,100] 15 47 3 16 <|
  tabRow #[97,109,111,109,97,120,46,100] 15 47 3 20 <|
  tabRow #[97,109,111,109,105,110,117,46,100] 15 47 3 24 <|
  tabRow #[97,109,111,109,97,120,117,46,100] 15 47 3 28 <|
  tabRow #[109,114,101,116] 11 115 0 770 <|
  tabRow #[115,114,101,116] 11 115 0 258 <|
  tabRow #[119,102,105] 11 115 0 261 <|
  tabRow #[115,102,101,110,99,101,46,118,109,97] 16 115 0 9 <| .nil
end Sw
end
section
/- inst.table, inst.Decode of one word: what they do. -/
namespace Sw
set_option maxRecDepth 100000
open Go Go.Proofs Vx

structure GOnly where
  G : Nat → Option Obj
def conTab : Con where
  X := GOnly
  n := 0
  args _ := []
  heap _ := []
  G x := x.G
  pre _ := True
  Y := Unit
  m := 0
  post _ _ := True
  res _ _ := .agg tab
  heap' _ _ := []
  G' x _ := x.G
noncomputable def body142 : SpecT := body (fun _ => noSpec) (fun _ bx => iter bx 0) 142
end Sw
end
section
/- inst.Decode of one word (addi x1, x0, 5): what it does. -/
namespace Sw
set_option maxRecDepth 100000
open Go Go.Proofs Vx

def instrRow (op rd rs1 rs2 imm csr : Int) (aq rl : Bool) : SV := .cons (.int .i64 (.lit op)) (.cons (.int .i64 (.lit rd)) (.cons (.int .i64 (.lit rs1)) (.cons (.int .i64 (.lit rs2))
  (.cons (.int .i64 (.lit imm)) (.cons (.int .i64 (.lit csr)) (.cons (.bool (.lit aq)) (.cons (.bool (.lit rl)) .nil)))))))
def conDec5 : Con where
  X := GOnly
  n := 0
  args _ := [.int .u32 (.lit 5243027)]
  heap _ := []
  G x := x.G
  pre _ := True
  Y := Unit
  m := 0
  post _ _ := True
  res _ _ := .tup (.cons (.agg (instrRow 22 1 0 0 5 0 false false)) (.cons (.int .i64 (.lit 0)) .nil))
  heap' _ _ := []
  G' x _ := x.G
noncomputable def extTab (f : Nat) : SpecT := bif Nat.beq f 142 then conTab.spec else noSpec
def decFs : List Nat := [119, 143, 144, 145, 173, 180, 181, 182, 207, 208]
def inlDec (f : Nat) : Bool := decFs.any (Nat.beq f)
def rounds200 : Ways where
  loop _ bx := iter bx 200
noncomputable def body119 : SpecT := callD C0 extTab (fun _ => rounds200) inlDec 20 119
end Sw
end
section
/- What InDec's conditions come to, word for word: made by a program. -/
set_option maxRecDepth 100000
set_option linter.unusedVariables false
namespace Sw
open Go Go.Proofs Vx
theorem dec5_vc : (conDec5.Vc body119) = (
∀ (x : Sw.GOnly), Sw.conDec5.pre x →
 ∃ (x_1 : Sw.GOnly), Vx.Sub (Sw.conTab.G x_1) x.G ∧
 Sw.conTab.pre x_1 ∧
 ∀ (y : PUnit), Sw.conTab.post x_1 y →
 ByteArray.mk #[108, 117, 105] =
 ByteArray.mk #[108, 117, 105] ∧
 ∃ (x_2 : Sw.GOnly), Vx.Sub (Sw.conTab.G x_2) x_1.G ∧
 Sw.conTab.pre x_2 ∧
 ∀ (y : PUnit), Sw.conTab.post x_2 y →
 ByteArray.mk
 #[97, 117, 105, 112, 99] =
 ByteArray.mk
 #[97, 117, 105, 112, 99] ∧
 ∃ (x_3 : Sw.GOnly), Vx.Sub (Sw.conTab.G x_3) x_2.G ∧
 Sw.conTab.pre x_3 ∧
 ∀ (y : PUnit), Sw.conTab.post x_3 y →
 ByteArray.mk #[106, 97, 108] =
 ByteArray.mk #[106, 97, 108] ∧
 ∃ (x_4 : Sw.GOnly), Vx.Sub (Sw.conTab.G x_4) x_3.G ∧
 Sw.conTab.pre x_4 ∧
 ∀ (y : PUnit), Sw.conTab.post x_4 y →
 ByteArray.mk
 #[106, 97, 108, 114] =
 ByteArray.mk
 #[106, 97, 108, 114] ∧
 ∃ (x_5 : Sw.GOnly), Vx.Sub (Sw.conTab.G x_5) x_4.G ∧
 Sw.conTab.pre x_5 ∧
 ∀ (y : PUnit), Sw.conTab.post x_5 y →
 ByteArray.mk #[98, 101, 113] =
 ByteArray.mk #[98, 101, 113] ∧
 ∃ (x_6 : Sw.GOnly), Vx.Sub (Sw.conTab.G x_6) x_5.G ∧
 Sw.conTab.pre x_6 ∧
 ∀ (y : PUnit), Sw.conTab.post x_6 y →
 ByteArray.mk
 #[98, 110, 101] =
 ByteArray.mk
 #[98, 110, 101] ∧
 ∃ (x_7 : Sw.GOnly), Vx.Sub (Sw.conTab.G x_7) x_6.G ∧
 Sw.conTab.pre x_7 ∧
 ∀ (y : PUnit), Sw.conTab.post x_7 y →
 ByteArray.mk
 #[98, 108, 116] =
 ByteArray.mk
 #[98, 108, 116] ∧
 ∃ (x_8 : Sw.GOnly), Vx.Sub (Sw.conTab.G x_8) x_7.G ∧
 Sw.conTab.pre x_8 ∧
 ∀ (y : PUnit), Sw.conTab.post x_8 y →
 ByteArray.mk
 #[98, 103, 101] =
 ByteArray.mk
 #[98, 103, 101] ∧
 ∃ (x_9 : Sw.GOnly), Vx.Sub (Sw.conTab.G x_9) x_8.G ∧
 Sw.conTab.pre x_9 ∧
 ∀ (y : PUnit), Sw.conTab.post x_9 y →
 ByteArray.mk
 #[98, 108, 116, 117] =
 ByteArray.mk
 #[98, 108, 116, 117] ∧
 ∃ (x_10 : Sw.GOnly), Vx.Sub (Sw.conTab.G x_10) x_9.G ∧
 Sw.conTab.pre x_10 ∧
 ∀ (y : PUnit), Sw.conTab.post x_10 y →
 ByteArray.mk
 #[98, 103, 101, 117] =
 ByteArray.mk
 #[98, 103, 101, 117] ∧
 ∃ (x_11 : Sw.GOnly), Vx.Sub (Sw.conTab.G x_11) x_10.G ∧
 Sw.conTab.pre x_11 ∧
 ∀ (y : PUnit), Sw.conTab.post x_11 y →
 ByteArray.mk
 #[108, 98] =
 ByteArray.mk
 #[108, 98] ∧
 ∃ (x_12 : Sw.GOnly), Vx.Sub
 (Sw.conTab.G x_12)
 x_11.G ∧
 Sw.conTab.pre x_12 ∧
 ∀ (y : PUnit), Sw.conTab.post
 x_12 y →
 ByteArray.mk
 #[108, 104] =
 ByteArray.mk
 #[108, 104] ∧
 ∃ (x_13 :
 Sw.GOnly), Vx.Sub
 (Sw.conTab.G
 x_13)
 x_12.G ∧
 Sw.conTab.pre
 x_13 ∧
 ∀
 (y :
 PUnit), Sw.conTab.post
 x_13
 y →
 ByteArray.mk
 #[108, 119] =
 ByteArray.mk
 #[108, 119] ∧
 ∃
 (x_14
 :
 Sw.GOnly), Vx.Sub
 (Sw.conTab.G
 x_14)
 x_13.G ∧
 Sw.conTab.pre
 x_14 ∧
 ∀
 (y :
 PUnit), Sw.conTab.post
 x_14
 y →
 ByteArray.mk
 #[108, 100] =
 ByteArray.mk
 #[108, 100] ∧
 ∃
 (x_15
 :
 Sw.GOnly), Vx.Sub
 (Sw.conTab.G
 x_15)
 x_14.G ∧
 Sw.conTab.pre
 x_15 ∧
 ∀
 (y :
 PUnit), Sw.conTab.post
 x_15
 y →
 ByteArray.mk
 #[108, 98, 117] =
 ByteArray.mk
 #[108, 98, 117] ∧
 ∃
 (x_16
 :
 Sw.GOnly), Vx.Sub
 (Sw.conTab.G
 x_16)
 x_15.G ∧
 Sw.conTab.pre
 x_16 ∧
 ∀
 (y :
 PUnit), Sw.conTab.post
 x_16
 y →
 ByteArray.mk
 #[108, 104, 117] =
 ByteArray.mk
 #[108, 104, 117] ∧
 ∃
 (x_17
 :
 Sw.GOnly), Vx.Sub
 (Sw.conTab.G
 x_17)
 x_16.G ∧
 Sw.conTab.pre
 x_17 ∧
 ∀
 (y :
 PUnit), Sw.conTab.post
 x_17
 y →
 ByteArray.mk
 #[108, 119, 117] =
 ByteArray.mk
 #[108, 119, 117] ∧
 ∃
 (x_18
 :
 Sw.GOnly), Vx.Sub
 (Sw.conTab.G
 x_18)
 x_17.G ∧
 Sw.conTab.pre
 x_18 ∧
 ∀
 (y :
 PUnit), Sw.conTab.post
 x_18
 y →
 ByteArray.mk
 #[115, 98] =
 ByteArray.mk
 #[115, 98] ∧
 ∃
 (x_19
 :
 Sw.GOnly), Vx.Sub
 (Sw.conTab.G
 x_19)
 x_18.G ∧
 Sw.conTab.pre
 x_19 ∧
 ∀
 (y :
 PUnit), Sw.conTab.post
 x_19
 y →
 ByteArray.mk
 #[115, 104] =
 ByteArray.mk
 #[115, 104] ∧
 ∃
 (x_20
 :
 Sw.GOnly), Vx.Sub
 (Sw.conTab.G
 x_20)
 x_19.G ∧
 Sw.conTab.pre
 x_20 ∧
 ∀
 (y :
 PUnit), Sw.conTab.post
 x_20
 y →
 ByteArray.mk
 #[115, 119] =
 ByteArray.mk
 #[115, 119] ∧
 ∃
 (x_21
 :
 Sw.GOnly), Vx.Sub
 (Sw.conTab.G
 x_21)
 x_20.G ∧
 Sw.conTab.pre
 x_21 ∧
 ∀
 (y :
 PUnit), Sw.conTab.post
 x_21
 y →
 ByteArray.mk
 #[115, 100] =
 ByteArray.mk
 #[115, 100] ∧
 ∃
 (x_22
 :
 Sw.GOnly), Vx.Sub
 (Sw.conTab.G
 x_22)
 x_21.G ∧
 Sw.conTab.pre
 x_22 ∧
 ∀
 (y :
 PUnit), Sw.conTab.post
 x_22
 y →
 ByteArray.mk
 #[97, 100, 100, 105] =
 ByteArray.mk
 #[97, 100, 100, 105] ∧
 ∃
 (y
 :
 PUnit), Sw.conDec5.post
 x
 y ∧
 Vx.Sub
 (Sw.conDec5.G'
 x
 y)
 x_22.G ∧
 True) := by kernel_rfl
end Sw
end
section
/- What InTabC's conditions come to, word for word: made by a program. -/
set_option maxRecDepth 100000
set_option linter.unusedVariables false
namespace Sw
open Go Go.Proofs Vx
theorem tab_vc : (conTab.Vc body142) = (
∀ (x : Sw.GOnly), Sw.conTab.pre x →
 ∃ (y : PUnit), Sw.conTab.post x y ∧
 ByteArray.mk #[] = ByteArray.mk #[] ∧
 ByteArray.mk #[108, 117, 105] =
 ByteArray.mk #[108, 117, 105] ∧
 ByteArray.mk #[97, 117, 105, 112, 99] =
 ByteArray.mk #[97, 117, 105, 112, 99] ∧
 ByteArray.mk #[106, 97, 108] =
 ByteArray.mk #[106, 97, 108] ∧
 ByteArray.mk #[106, 97, 108, 114] =
 ByteArray.mk #[106, 97, 108, 114] ∧
 ByteArray.mk #[98, 101, 113] =
 ByteArray.mk #[98, 101, 113] ∧
 ByteArray.mk #[98, 110, 101] =
 ByteArray.mk #[98, 110, 101] ∧
 ByteArray.mk #[98, 108, 116] =
 ByteArray.mk #[98, 108, 116] ∧
 ByteArray.mk #[98, 103, 101] =
 ByteArray.mk #[98, 103, 101] ∧
 ByteArray.mk #[98, 108, 116, 117] =
 ByteArray.mk #[98, 108, 116, 117] ∧
 ByteArray.mk #[98, 103, 101, 117] =
 ByteArray.mk #[98, 103, 101, 117] ∧
 ByteArray.mk #[108, 98] =
 ByteArray.mk #[108, 98] ∧
 ByteArray.mk #[108, 104] =
 ByteArray.mk #[108, 104] ∧
 ByteArray.mk #[108, 119] =
 ByteArray.mk #[108, 119] ∧
 ByteArray.mk #[108, 100] =
 ByteArray.mk #[108, 100] ∧
 ByteArray.mk #[108, 98, 117] =
 ByteArray.mk #[108, 98, 117] ∧
 ByteArray.mk #[108, 104, 117] =
 ByteArray.mk #[108, 104, 117] ∧
 ByteArray.mk #[108, 119, 117] =
 ByteArray.mk #[108, 119, 117] ∧
 ByteArray.mk #[115, 98] =
 ByteArray.mk #[115, 98] ∧
 ByteArray.mk #[115, 104] =
 ByteArray.mk #[115, 104] ∧
 ByteArray.mk #[115, 119] =
 ByteArray.mk #[115, 119] ∧
 ByteArray.mk #[115, 100] =
 ByteArray.mk #[115, 100] ∧
 ByteArray.mk
 #[97, 100, 100, 105] =
 ByteArray.mk
 #[97, 100, 100, 105] ∧
 ByteArray.mk
 #[115, 108, 116, 105] =
 ByteArray.mk
 #[115, 108, 116, 105] ∧
 ByteArray.mk
 #[115, 108, 116, 105, 117] =
 ByteArray.mk
 #[115, 108, 116, 105, 117] ∧
 ByteArray.mk
 #[120, 111, 114, 105] =
 ByteArray.mk
 #[120, 111, 114, 105] ∧
 ByteArray.mk #[111, 114, 105] =
 ByteArray.mk #[111, 114, 105] ∧
 ByteArray.mk
 #[97, 110, 100, 105] =
 ByteArray.mk
 #[97, 110, 100, 105] ∧
 ByteArray.mk
 #[115, 108, 108, 105] =
 ByteArray.mk
 #[115, 108, 108, 105] ∧
 ByteArray.mk
 #[115, 114, 108, 105] =
 ByteArray.mk
 #[115, 114, 108, 105] ∧
 ByteArray.mk
 #[115, 114, 97, 105] =
 ByteArray.mk
 #[115, 114, 97, 105] ∧
 ByteArray.mk #[97, 100, 100] =
 ByteArray.mk
 #[97, 100, 100] ∧
 ByteArray.mk
 #[115, 117, 98] =
 ByteArray.mk
 #[115, 117, 98] ∧
 ByteArray.mk
 #[115, 108, 108] =
 ByteArray.mk
 #[115, 108, 108] ∧
 ByteArray.mk
 #[115, 108, 116] =
 ByteArray.mk
 #[115, 108, 116] ∧
 ByteArray.mk
 #[115, 108, 116, 117] =
 ByteArray.mk
 #[115, 108, 116, 117] ∧
 ByteArray.mk
 #[120, 111, 114] =
 ByteArray.mk
 #[120, 111, 114] ∧
 ByteArray.mk
 #[115, 114, 108] =
 ByteArray.mk
 #[115, 114, 108] ∧
 ByteArray.mk
 #[115, 114, 97] =
 ByteArray.mk
 #[115, 114, 97] ∧
 ByteArray.mk #[111, 114] =
 ByteArray.mk #[111, 114] ∧
 ByteArray.mk
 #[97, 110, 100] =
 ByteArray.mk
 #[97, 110, 100] ∧
 ByteArray.mk
 #[97, 100, 100, 105, 119] =
 ByteArray.mk
 #[97, 100, 100, 105, 119] ∧
 ByteArray.mk
 #[115, 108, 108, 105, 119] =
 ByteArray.mk
 #[115, 108, 108, 105, 119] ∧
 ByteArray.mk
 #[115, 114, 108, 105, 119] =
 ByteArray.mk
 #[115, 114, 108, 105, 119] ∧
 ByteArray.mk
 #[115, 114, 97, 105, 119] =
 ByteArray.mk
 #[115, 114, 97, 105, 119] ∧
 ByteArray.mk
 #[97, 100, 100, 119] =
 ByteArray.mk
 #[97, 100, 100, 119] ∧
 ByteArray.mk
 #[115, 117, 98, 119] =
 ByteArray.mk
 #[115, 117, 98, 119] ∧
 ByteArray.mk
 #[115, 108, 108, 119] =
 ByteArray.mk
 #[115, 108, 108, 119] ∧
 ByteArray.mk
 #[115, 114, 108, 119] =
 ByteArray.mk
 #[115, 114, 108, 119] ∧
 ByteArray.mk
 #[115, 114, 97, 119] =
 ByteArray.mk
 #[115, 114, 97, 119] ∧
 ByteArray.mk
 #[102, 101, 110, 99, 101] =
 ByteArray.mk
 #[102, 101, 110, 99, 101] ∧
 ByteArray.mk
 #[102, 101, 110, 99, 101, 46, 105] =
 ByteArray.mk
 #[102, 101, 110, 99, 101, 46, 105] ∧
 ByteArray.mk
 #[101, 99, 97, 108, 108] =
 ByteArray.mk
 #[101, 99, 97, 108, 108] ∧
 ByteArray.mk
 #[101, 98, 114, 101, 97, 107] =
 ByteArray.mk
 #[101, 98, 114, 101, 97, 107] ∧
 ByteArray.mk
 #[99, 115, 114, 114, 119] =
 ByteArray.mk
 #[99, 115, 114, 114, 119] ∧
 ByteArray.mk
 #[99, 115, 114, 114, 115] =
 ByteArray.mk
 #[99, 115, 114, 114, 115] ∧
 ByteArray.mk
 #[99, 115, 114, 114, 99] =
 ByteArray.mk
 #[99, 115, 114, 114, 99] ∧
 ByteArray.mk
 #[99, 115, 114, 114, 119, 105] =
 ByteArray.mk
 #[99, 115, 114, 114, 119, 105] ∧
 ByteArray.mk
 #[99, 115, 114, 114, 115, 105] =
 ByteArray.mk
 #[99, 115, 114, 114, 115, 105] ∧
 ByteArray.mk
 #[99, 115, 114, 114, 99, 105] =
 ByteArray.mk
 #[99, 115, 114, 114, 99, 105] ∧
 ByteArray.mk
 #[109, 117, 108] =
 ByteArray.mk
 #[109, 117, 108] ∧
 ByteArray.mk
 #[109, 117, 108, 104] =
 ByteArray.mk
 #[109, 117, 108, 104] ∧
 ByteArray.mk
 #[109, 117, 108, 104, 115, 117] =
 ByteArray.mk
 #[109, 117, 108, 104, 115, 117] ∧
 ByteArray.mk
 #[109, 117, 108, 104, 117] =
 ByteArray.mk
 #[109, 117, 108, 104, 117] ∧
 ByteArray.mk
 #[100, 105, 118] =
 ByteArray.mk
 #[100, 105, 118] ∧
 ByteArray.mk
 #[100, 105, 118, 117] =
 ByteArray.mk
 #[100, 105, 118, 117] ∧
 ByteArray.mk
 #[114, 101, 109] =
 ByteArray.mk
 #[114, 101, 109] ∧
 ByteArray.mk
 #[114, 101, 109, 117] =
 ByteArray.mk
 #[114, 101, 109, 117] ∧
 ByteArray.mk
 #[109, 117, 108, 119] =
 ByteArray.mk
 #[109, 117, 108, 119] ∧
 ByteArray.mk
 #[100, 105, 118, 119] =
 ByteArray.mk
 #[100, 105, 118, 119] ∧
 ByteArray.mk
 #[100, 105, 118, 117, 119] =
 ByteArray.mk
 #[100, 105, 118, 117, 119] ∧
 ByteArray.mk
 #[114, 101, 109, 119] =
 ByteArray.mk
 #[114, 101, 109, 119] ∧
 ByteArray.mk
 #[114, 101, 109, 117, 119] =
 ByteArray.mk
 #[114, 101, 109, 117, 119] ∧
 ByteArray.mk
 #[108, 114, 46, 119] =
 ByteArray.mk
 #[108, 114, 46, 119] ∧
 ByteArray.mk
 #[115, 99, 46, 119] =
 ByteArray.mk
 #[115, 99, 46, 119] ∧
 ByteArray.mk
 #[97, 109, 111, 115, 119, 97, 112, 46, 119] =
 ByteArray.mk
 #[97, 109, 111, 115, 119, 97, 112, 46, 119] ∧
 ByteArray.mk
 #[97, 109, 111, 97, 100, 100, 46, 119] =
 ByteArray.mk
 #[97, 109, 111, 97, 100, 100, 46, 119] ∧
 ByteArray.mk
 #[97, 109, 111, 120, 111, 114, 46, 119] =
 ByteArray.mk
 #[97, 109, 111, 120, 111, 114, 46, 119] ∧
 ByteArray.mk
 #[97, 109, 111, 97, 110, 100, 46, 119] =
 ByteArray.mk
 #[97, 109, 111, 97, 110, 100, 46, 119] ∧
 ByteArray.mk
 #[97, 109, 111, 111, 114, 46, 119] =
 ByteArray.mk
 #[97, 109, 111, 111, 114, 46, 119] ∧
 ByteArray.mk
 #[97, 109, 111, 109, 105, 110, 46, 119] =
 ByteArray.mk
 #[97, 109, 111, 109, 105, 110, 46, 119] ∧
 ByteArray.mk
 #[97, 109, 111, 109, 97, 120, 46, 119] =
 ByteArray.mk
 #[97, 109, 111, 109, 97, 120, 46, 119] ∧
 ByteArray.mk
 #[97, 109, 111, 109, 105, 110, 117, 46, 119] =
 ByteArray.mk
 #[97, 109, 111, 109, 105, 110, 117, 46, 119] ∧
 ByteArray.mk
 #[97, 109, 111, 109, 97, 120, 117, 46, 119] =
 ByteArray.mk
 #[97, 109, 111, 109, 97, 120, 117, 46, 119] ∧
 ByteArray.mk
 #[108, 114, 46, 100] =
 ByteArray.mk
 #[108, 114, 46, 100] ∧
 ByteArray.mk
 #[115, 99, 46, 100] =
 ByteArray.mk
 #[115, 99, 46, 100] ∧
 ByteArray.mk
 #[97, 109, 111, 115, 119, 97, 112, 46, 100] =
 ByteArray.mk
 #[97, 109, 111, 115, 119, 97, 112, 46, 100] ∧
 ByteArray.mk
 #[97, 109, 111, 97, 100, 100, 46, 100] =
 ByteArray.mk
 #[97, 109, 111, 97, 100, 100, 46, 100] ∧
 ByteArray.mk
 #[97, 109, 111, 120, 111, 114, 46, 100] =
 ByteArray.mk
 #[97, 109, 111, 120, 111, 114, 46, 100] ∧
 ByteArray.mk
 #[97, 109, 111, 97, 110, 100, 46, 100] =
 ByteArray.mk
 #[97, 109, 111, 97, 110, 100, 46, 100] ∧
 ByteArray.mk
 #[97, 109, 111, 111, 114, 46, 100] =
 ByteArray.mk
 #[97, 109, 111, 111, 114, 46, 100] ∧
 ByteArray.mk
 #[97, 109, 111, 109, 105, 110, 46, 100] =
 ByteArray.mk
 #[97, 109, 111, 109, 105, 110, 46, 100] ∧
 ByteArray.mk
 #[97, 109, 111, 109, 97, 120, 46, 100] =
 ByteArray.mk
 #[97, 109, 111, 109, 97, 120, 46, 100] ∧
 ByteArray.mk
 #[97, 109, 111, 109, 105, 110, 117, 46, 100] =
 ByteArray.mk
 #[97, 109, 111, 109, 105, 110, 117, 46, 100] ∧
 ByteArray.mk
 #[97, 109, 111, 109, 97, 120, 117, 46, 100] =
 ByteArray.mk
 #[97, 109, 111, 109, 97, 120, 117, 46, 100] ∧
 ByteArray.mk
 #[109, 114, 101, 116] =
 ByteArray.mk
 #[109, 114, 101, 116] ∧
 ByteArray.mk
 #[115, 114, 101, 116] =
 ByteArray.mk
 #[115, 114, 101, 116] ∧
 ByteArray.mk
 #[119, 102, 105] =
 ByteArray.mk
 #[119, 102, 105] ∧
 ByteArray.mk
 #[115, 102, 101, 110, 99, 101, 46, 118, 109, 97] =
 ByteArray.mk
 #[115, 102, 101, 110, 99, 101, 46, 118, 109, 97] ∧
 Vx.Sub
 (Sw.conTab.G'
 x
 y)
 x.G ∧
 True) := by kernel_rfl
end Sw
end
section
/- inst.table does what is said. -/
namespace Sw
set_option maxRecDepth 100000
open Go Go.Proofs Vx

theorem ok142 : SpecOk Tryz.prog 142 body142 := body_ok (fun f => noSpec_ok _ f) (iter_ways 0) (fun vs w => Tryz.call142 vs w)
theorem tab_ex : ∃ T, SpecOk Tryz.prog 142 T ∧ conTab.Vc T := by
  refine ⟨body142, ok142, ?_⟩
  rw [tab_vc]
  intro x _
  refine ⟨(), trivial, rfl, rfl, rfl, rfl, rfl, rfl, rfl, rfl, rfl, rfl, rfl, rfl, rfl, rfl, rfl, rfl, rfl, rfl, rfl, rfl, rfl, rfl, rfl, rfl, rfl, rfl, rfl, rfl, rfl, rfl, rfl, rfl, rfl, rfl, rfl, rfl, rfl, rfl, rfl, rfl, rfl, rfl, rfl, rfl, rfl, rfl, rfl, rfl, rfl, rfl, rfl, rfl, rfl, rfl, rfl, rfl, rfl, rfl, rfl, rfl, rfl, rfl, rfl, rfl, rfl, rfl, rfl, rfl, rfl, rfl, rfl, rfl, rfl, rfl, rfl, rfl, rfl, rfl, rfl, rfl, rfl, rfl, rfl, rfl, rfl, rfl, rfl, rfl, rfl, rfl, rfl, rfl, rfl, rfl, rfl, rfl, rfl, rfl, rfl, Sub.refl _, trivial⟩
theorem spec142 : SpecOk Tryz.prog 142 conTab.spec := by
  obtain ⟨T, h2, h1⟩ := tab_ex
  exact Con.sound h2 h1
end Sw
end
section
/- inst.Decode of one word does what is said. -/
namespace Sw
set_option maxRecDepth 100000
open Go Go.Proofs Vx

theorem extTab_ok (f : Nat) : SpecOk Tryz.prog f (extTab f) := by
  unfold extTab
  cases h : Nat.beq f 142
  · exact noSpec_ok _ f
  · have := beq_t h
    subst this
    exact spec142
theorem inlDec_ok (f : Nat) (h : inlDec f = true) (vs : Array Value) (w : World) : (callFunc f vs).run Tryz.prog w = .ok (.enter f vs) w := by
  simp only [inlDec, decFs, List.any_cons, List.any_nil, Bool.or_false, Bool.or_eq_true] at h
  rcases h with h | h | h | h | h | h | h | h | h | h <;> (have := beq_t h; subst this)
  · exact Tryz.call119 vs w
  · exact Tryz.call143 vs w
  · exact Tryz.call144 vs w
  · exact Tryz.call145 vs w
  · exact Tryz.call173 vs w
  · exact Tryz.call180 vs w
  · exact Tryz.call181 vs w
  · exact Tryz.call182 vs w
  · exact Tryz.call207 vs w
  · exact Tryz.call208 vs w
theorem dec5_ex : ∃ T, SpecOk Tryz.prog 119 T ∧ conDec5.Vc T := by
  refine ⟨body119, callD_spec c0_ok (callOk_of extTab_ok) (fun _ => ⟨fun _ => iter_ok _ 200, fun _ => PieceOk.id _⟩) inlDec_ok 19 rfl, ?_⟩
  rw [dec5_vc]
  intro x _
  exact ⟨⟨x.G⟩, Sub.refl _, trivial, fun _ _ => ⟨rfl, ⟨⟨x.G⟩, Sub.refl _, trivial, fun _ _ => ⟨rfl, ⟨⟨x.G⟩, Sub.refl _, trivial, fun _ _ => ⟨rfl, ⟨⟨x.G⟩, Sub.refl _, trivial, fun _ _ => ⟨rfl, ⟨⟨x.G⟩, Sub.refl _, trivial, fun _ _ => ⟨rfl, ⟨⟨x.G⟩, Sub.refl _, trivial, fun _ _ => ⟨rfl, ⟨⟨x.G⟩, Sub.refl _, trivial, fun _ _ => ⟨rfl, ⟨⟨x.G⟩, Sub.refl _, trivial, fun _ _ => ⟨rfl, ⟨⟨x.G⟩, Sub.refl _, trivial, fun _ _ => ⟨rfl, ⟨⟨x.G⟩, Sub.refl _, trivial, fun _ _ => ⟨rfl, ⟨⟨x.G⟩, Sub.refl _, trivial, fun _ _ => ⟨rfl, ⟨⟨x.G⟩, Sub.refl _, trivial, fun _ _ => ⟨rfl, ⟨⟨x.G⟩, Sub.refl _, trivial, fun _ _ => ⟨rfl, ⟨⟨x.G⟩, Sub.refl _, trivial, fun _ _ => ⟨rfl, ⟨⟨x.G⟩, Sub.refl _, trivial, fun _ _ => ⟨rfl, ⟨⟨x.G⟩, Sub.refl _, trivial, fun _ _ => ⟨rfl, ⟨⟨x.G⟩, Sub.refl _, trivial, fun _ _ => ⟨rfl, ⟨⟨x.G⟩, Sub.refl _, trivial, fun _ _ => ⟨rfl, ⟨⟨x.G⟩, Sub.refl _, trivial, fun _ _ => ⟨rfl, ⟨⟨x.G⟩, Sub.refl _, trivial, fun _ _ => ⟨rfl, ⟨⟨x.G⟩, Sub.refl _, trivial, fun _ _ => ⟨rfl, ⟨⟨x.G⟩, Sub.refl _, trivial, fun _ _ => ⟨rfl, ⟨(), trivial, Sub.refl _, trivial⟩⟩⟩⟩⟩⟩⟩⟩⟩⟩⟩⟩⟩⟩⟩⟩⟩⟩⟩⟩⟩⟩⟩⟩⟩⟩⟩⟩⟩⟩⟩⟩⟩⟩⟩⟩⟩⟩⟩⟩⟩⟩⟩⟩⟩
theorem spec119w : SpecOk Tryz.prog 119 conDec5.spec := by
  obtain ⟨T, h2, h1⟩ := dec5_ex
  exact Con.sound h2 h1
end Sw
end
section
/- The awake function 29 (F25): followed as it is. -/
namespace Sw
set_option maxRecDepth 100000
open Go Go.Proofs Vx

def fs29 : List Nat := [20, 25, 26, 27, 43, 49, 55, 56, 57, 58, 59, 60, 65, 66, 67, 76, 79, 81, 82, 83, 84, 85, 86, 87, 88, 96, 97, 98, 99, 100, 101, 102, 103, 104, 105, 106, 107, 108, 109, 113, 114, 115, 116, 117, 122, 123, 124, 125, 126, 127, 128, 129, 131, 132, 133, 134, 135, 136, 137, 138, 139, 140, 141, 149, 150, 151, 152, 154, 157, 158, 159, 160, 161, 162, 163, 164, 165, 166, 167, 168, 169, 170, 171, 172, 173, 174, 175, 176, 177, 178, 179, 181, 183, 186, 187, 188, 189, 190, 191, 192, 193, 194, 195, 196, 197, 198, 199, 200, 201, 202, 203, 204, 205, 206, 207, 208, 209, 210, 212, 213, 214, 215, 216, 217, 218, 219, 220, 221, 222, 223, 224, 225, 226, 227, 228, 229, 230, 231, 232, 233, 234, 235, 236, 237, 238, 239, 240, 241, 242, 244, 245, 246, 247, 248, 249, 250, 251, 252, 253, 254, 255, 256, 257, 258, 259, 260, 261, 262, 263, 264, 265, 266, 267, 268, 269, 270, 271, 272, 273, 274, 275, 276, 277, 278, 279, 280, 281, 282, 283, 284, 285, 286, 287, 288, 289, 290, 291, 292, 293, 294, 295, 296, 297, 298, 299, 300, 301, 302, 303, 304, 305, 306, 307, 308, 309, 310, 311, 312, 313, 314, 315]
def inl29 (f : Nat) : Bool := fs29.any (Nat.beq f)
noncomputable def call29 (f : Nat) : SpecT := bif Nat.beq f 130 then ext130 else bif Nat.beq f 142 then conTab.spec else bif Nat.beq f 119 then conDec5.spec else bif Nat.beq f 33 then conFrame.spec else noSpec
def conAw29 : Con where
  X := GOnly
  n := 0
  args _ := []
  heap _ := []
  G x := x.G
  pre _ := True
  Y := Unit
  m := 0
  post _ _ := True
  res _ _ := .bool (.lit true)
  heap' _ _ := []
  G' x _ := x.G
def rnd29 : Ways where
  loop _ bx := iter bx 5000
noncomputable def bodyAw29 : SpecT := callD C0 call29 (fun _ => rnd29) inl29 60 25
end Sw
end
section
/- What GdAw's conditions come to, word for word: made by a program. -/
set_option maxRecDepth 100000
set_option linter.unusedVariables false
namespace Sw
open Go Go.Proofs Vx
theorem aw29_vc : (conAw29.Vc bodyAw29) = (
∀ (x : Sw.GOnly), Sw.conAw29.pre x →
 ∀ (vs : List Go.Value), vs.length = (8 : Nat) →
 (∀ (v : Go.Value), v ∈ vs → v.oneCell' = Bool.true) →
 ∀ (c : Nat) (vs : List Go.Value), (8 : Nat) ≤ c →
 vs.length = (c - (8 : Nat)) * (1 : Nat) →
 (∀ (v : Go.Value), v ∈ vs → v.oneCell' = Bool.true) →
 ∀ (vs : List Go.Value), vs.length = (0 : Nat) →
 (∀ (v : Go.Value), v ∈ vs → v.oneCell' = Bool.true) →
 ∀ (vs : List Go.Value), vs.length = (0 : Nat) →
 (∀ (v : Go.Value), v ∈ vs → v.oneCell' = Bool.true) →
 ∃ (x_1 : Sw.StrX), x_1.s = ByteArray.mk #[79, 75] ∧
 Vx.Sub (Sw.conFrame.G x_1) x.G ∧
 Sw.conFrame.pre x_1 ∧
 ∀ (y : ByteArray), Sw.conFrame.post x_1 y →
 ((y.toList ==
 (ByteArray.mk
 #[36, 79, 75, 35, 57, 97]).toList) =
 Bool.true →
 ∀ (vs : List Go.Value), vs.length = (0 : Nat) →
 (∀ (v : Go.Value), v ∈ vs → v.oneCell' = Bool.true) →
 ∀ (vs : List Go.Value), vs.length = (8 : Nat) →
 (∀ (v : Go.Value), v ∈ vs → v.oneCell' = Bool.true) →
 ∀ (r : ByteArray), r =
 Vx.strOf
 ((Vx.IL.fill (Int.toNat (0 : Int)) (0 : Int) []).den ++
 [(57 : Int), (51 : Int), (48 : Int), (48 : Int), (53 : Int), (48 : Int), (48 : Int), (48 : Int)]) →
 ((r.toList ==
 (ByteArray.mk
 #[57, 51, 48, 48, 53, 48, 48, 48]).toList) =
 Bool.true →
 ((((∃ (x_2 : Sw.GOnly), Vx.Sub (Sw.conDec5.G x_2) x_1.G ∧
 Sw.conDec5.pre x_2 ∧
 ∀ (y : PUnit), Sw.conDec5.post x_2 y →
 ∃ (x_3 : Sw.GOnly), Vx.Sub (Sw.conTab.G x_3) x_2.G ∧
 Sw.conTab.pre x_3 ∧
 ∀ (y : PUnit), Sw.conTab.post x_3 y →
 ∃ (x_4 : Sw.GOnly), Vx.Sub (Sw.conTab.G x_4) x_3.G ∧
 Sw.conTab.pre x_4 ∧
 ∀ (y : PUnit), Sw.conTab.post x_4 y →
 ∃ (x_5 : Sw.GOnly), Vx.Sub (Sw.conTab.G x_5) x_4.G ∧
 Sw.conTab.pre x_5 ∧
 ∀ (y : PUnit), Sw.conTab.post x_5 y →
 ∃ (x_6 : Sw.GOnly), Vx.Sub (Sw.conTab.G x_6) x_5.G ∧
 Sw.conTab.pre x_6 ∧
 ∀ (y : PUnit), Sw.conTab.post x_6 y →
 ∃ (x_7 : Sw.GOnly), Vx.Sub (Sw.conTab.G x_7) x_6.G ∧
 Sw.conTab.pre x_7 ∧
 ∀ (y : PUnit), Sw.conTab.post x_7 y →
 ∃ (x_8 : Sw.GOnly), Vx.Sub (Sw.conTab.G x_8)
 x_7.G ∧
 Sw.conTab.pre x_8 ∧
 ∀ (y : PUnit), Sw.conTab.post x_8
 y →
 ∃ (x_9 :
 Sw.GOnly), Vx.Sub
 (Sw.conTab.G
 x_9)
 x_8.G ∧
 Sw.conTab.pre
 x_9 ∧
 ∀
 (y :
 PUnit), Sw.conTab.post
 x_9
 y →
 ∃ (y :
 PUnit), Sw.conAw29.post
 x
 y ∧
 Vx.Sub
 (Sw.conAw29.G'
 x
 y)
 x_9.G ∧
 True) ∧
 ∃ (x_2 : Sw.GOnly), Vx.Sub (Sw.conDec5.G x_2) x_1.G ∧
 Sw.conDec5.pre x_2 ∧
 ∀ (y : PUnit), Sw.conDec5.post x_2 y →
 ∃ (x_3 : Sw.GOnly), Vx.Sub (Sw.conTab.G x_3) x_2.G ∧
 Sw.conTab.pre x_3 ∧
 ∀ (y : PUnit), Sw.conTab.post x_3 y →
 ∃ (x_4 : Sw.GOnly), Vx.Sub (Sw.conTab.G x_4) x_3.G ∧
 Sw.conTab.pre x_4 ∧
 ∀ (y : PUnit), Sw.conTab.post x_4 y →
 ∃ (x_5 : Sw.GOnly), Vx.Sub (Sw.conTab.G x_5) x_4.G ∧
 Sw.conTab.pre x_5 ∧
 ∀ (y : PUnit), Sw.conTab.post x_5 y →
 ∃ (x_6 : Sw.GOnly), Vx.Sub (Sw.conTab.G x_6) x_5.G ∧
 Sw.conTab.pre x_6 ∧
 ∀ (y : PUnit), Sw.conTab.post x_6 y →
 ∃ (x_7 : Sw.GOnly), Vx.Sub (Sw.conTab.G x_7) x_6.G ∧
 Sw.conTab.pre x_7 ∧
 ∀ (y : PUnit), Sw.conTab.post x_7 y →
 ∃ (x_8 : Sw.GOnly), Vx.Sub (Sw.conTab.G x_8)
 x_7.G ∧
 Sw.conTab.pre x_8 ∧
 ∀ (y : PUnit), Sw.conTab.post x_8
 y →
 ∃ (x_9 :
 Sw.GOnly), Vx.Sub
 (Sw.conTab.G
 x_9)
 x_8.G ∧
 Sw.conTab.pre
 x_9 ∧
 ∀
 (y :
 PUnit), Sw.conTab.post
 x_9
 y →
 ∃ (y :
 PUnit), Sw.conAw29.post
 x
 y ∧
 Vx.Sub
 (Sw.conAw29.G'
 x
 y)
 x_9.G ∧
 True) ∧
 (∃ (x_2 : Sw.GOnly), Vx.Sub (Sw.conDec5.G x_2) x_1.G ∧
 Sw.conDec5.pre x_2 ∧
 ∀ (y : PUnit), Sw.conDec5.post x_2 y →
 ∃ (x_3 : Sw.GOnly), Vx.Sub (Sw.conTab.G x_3) x_2.G ∧
 Sw.conTab.pre x_3 ∧
 ∀ (y : PUnit), Sw.conTab.post x_3 y →
 ∃ (x_4 : Sw.GOnly), Vx.Sub (Sw.conTab.G x_4) x_3.G ∧
 Sw.conTab.pre x_4 ∧
 ∀ (y : PUnit), Sw.conTab.post x_4 y →
 ∃ (x_5 : Sw.GOnly), Vx.Sub (Sw.conTab.G x_5) x_4.G ∧
 Sw.conTab.pre x_5 ∧
 ∀ (y : PUnit), Sw.conTab.post x_5 y →
 ∃ (x_6 : Sw.GOnly), Vx.Sub (Sw.conTab.G x_6) x_5.G ∧
 Sw.conTab.pre x_6 ∧
 ∀ (y : PUnit), Sw.conTab.post x_6 y →
 ∃ (x_7 : Sw.GOnly), Vx.Sub (Sw.conTab.G x_7) x_6.G ∧
 Sw.conTab.pre x_7 ∧
 ∀ (y : PUnit), Sw.conTab.post x_7 y →
 ∃ (x_8 : Sw.GOnly), Vx.Sub (Sw.conTab.G x_8)
 x_7.G ∧
 Sw.conTab.pre x_8 ∧
 ∀ (y : PUnit), Sw.conTab.post x_8
 y →
 ∃ (x_9 :
 Sw.GOnly), Vx.Sub
 (Sw.conTab.G
 x_9)
 x_8.G ∧
 Sw.conTab.pre
 x_9 ∧
 ∀
 (y :
 PUnit), Sw.conTab.post
 x_9
 y →
 ∃ (y :
 PUnit), Sw.conAw29.post
 x
 y ∧
 Vx.Sub
 (Sw.conAw29.G'
 x
 y)
 x_9.G ∧
 True) ∧
 ∃ (x_2 : Sw.GOnly), Vx.Sub (Sw.conDec5.G x_2) x_1.G ∧
 Sw.conDec5.pre x_2 ∧
 ∀ (y : PUnit), Sw.conDec5.post x_2 y →
 ∃ (x_3 : Sw.GOnly), Vx.Sub (Sw.conTab.G x_3) x_2.G ∧
 Sw.conTab.pre x_3 ∧
 ∀ (y : PUnit), Sw.conTab.post x_3 y →
 ∃ (x_4 : Sw.GOnly), Vx.Sub (Sw.conTab.G x_4) x_3.G ∧
 Sw.conTab.pre x_4 ∧
 ∀ (y : PUnit), Sw.conTab.post x_4 y →
 ∃ (x_5 : Sw.GOnly), Vx.Sub (Sw.conTab.G x_5) x_4.G ∧
 Sw.conTab.pre x_5 ∧
 ∀ (y : PUnit), Sw.conTab.post x_5 y →
 ∃ (x_6 : Sw.GOnly), Vx.Sub (Sw.conTab.G x_6) x_5.G ∧
 Sw.conTab.pre x_6 ∧
 ∀ (y : PUnit), Sw.conTab.post x_6 y →
 ∃ (x_7 : Sw.GOnly), Vx.Sub (Sw.conTab.G x_7) x_6.G ∧
 Sw.conTab.pre x_7 ∧
 ∀ (y : PUnit), Sw.conTab.post x_7 y →
 ∃ (x_8 : Sw.GOnly), Vx.Sub (Sw.conTab.G x_8)
 x_7.G ∧
 Sw.conTab.pre x_8 ∧
 ∀ (y : PUnit), Sw.conTab.post x_8
 y →
 ∃ (x_9 :
 Sw.GOnly), Vx.Sub
 (Sw.conTab.G
 x_9)
 x_8.G ∧
 Sw.conTab.pre
 x_9 ∧
 ∀
 (y :
 PUnit), Sw.conTab.post
 x_9
 y →
 ∃ (y :
 PUnit), Sw.conAw29.post
 x
 y ∧
 Vx.Sub
 (Sw.conAw29.G'
 x
 y)
 x_9.G ∧
 True) ∧
 (∃ (x_2 : Sw.GOnly), Vx.Sub (Sw.conDec5.G x_2) x_1.G ∧
 Sw.conDec5.pre x_2 ∧
 ∀ (y : PUnit), Sw.conDec5.post x_2 y →
 ∃ (x_3 : Sw.GOnly), Vx.Sub (Sw.conTab.G x_3) x_2.G ∧
 Sw.conTab.pre x_3 ∧
 ∀ (y : PUnit), Sw.conTab.post x_3 y →
 ∃ (x_4 : Sw.GOnly), Vx.Sub (Sw.conTab.G x_4) x_3.G ∧
 Sw.conTab.pre x_4 ∧
 ∀ (y : PUnit), Sw.conTab.post x_4 y →
 ∃ (x_5 : Sw.GOnly), Vx.Sub (Sw.conTab.G x_5) x_4.G ∧
 Sw.conTab.pre x_5 ∧
 ∀ (y : PUnit), Sw.conTab.post x_5 y →
 ∃ (x_6 : Sw.GOnly), Vx.Sub (Sw.conTab.G x_6) x_5.G ∧
 Sw.conTab.pre x_6 ∧
 ∀ (y : PUnit), Sw.conTab.post x_6 y →
 ∃ (x_7 : Sw.GOnly), Vx.Sub (Sw.conTab.G x_7) x_6.G ∧
 Sw.conTab.pre x_7 ∧
 ∀ (y : PUnit), Sw.conTab.post x_7 y →
 ∃ (x_8 : Sw.GOnly), Vx.Sub (Sw.conTab.G x_8)
 x_7.G ∧
 Sw.conTab.pre x_8 ∧
 ∀ (y : PUnit), Sw.conTab.post x_8
 y →
 ∃ (x_9 :
 Sw.GOnly), Vx.Sub
 (Sw.conTab.G
 x_9)
 x_8.G ∧
 Sw.conTab.pre
 x_9 ∧
 ∀
 (y :
 PUnit), Sw.conTab.post
 x_9
 y →
 ∃ (y :
 PUnit), Sw.conAw29.post
 x
 y ∧
 Vx.Sub
 (Sw.conAw29.G'
 x
 y)
 x_9.G ∧
 True) ∧
 ∃ (x_2 : Sw.GOnly), Vx.Sub (Sw.conDec5.G x_2) x_1.G ∧
 Sw.conDec5.pre x_2 ∧
 ∀ (y : PUnit), Sw.conDec5.post x_2 y →
 ∃ (x_3 : Sw.GOnly), Vx.Sub (Sw.conTab.G x_3) x_2.G ∧
 Sw.conTab.pre x_3 ∧
 ∀ (y : PUnit), Sw.conTab.post x_3 y →
 ∃ (x_4 : Sw.GOnly), Vx.Sub (Sw.conTab.G x_4) x_3.G ∧
 Sw.conTab.pre x_4 ∧
 ∀ (y : PUnit), Sw.conTab.post x_4 y →
 ∃ (x_5 : Sw.GOnly), Vx.Sub (Sw.conTab.G x_5) x_4.G ∧
 Sw.conTab.pre x_5 ∧
 ∀ (y : PUnit), Sw.conTab.post x_5 y →
 ∃ (x_6 : Sw.GOnly), Vx.Sub (Sw.conTab.G x_6) x_5.G ∧
 Sw.conTab.pre x_6 ∧
 ∀ (y : PUnit), Sw.conTab.post x_6 y →
 ∃ (x_7 : Sw.GOnly), Vx.Sub (Sw.conTab.G x_7) x_6.G ∧
 Sw.conTab.pre x_7 ∧
 ∀ (y : PUnit), Sw.conTab.post x_7 y →
 ∃ (x_8 : Sw.GOnly), Vx.Sub (Sw.conTab.G x_8)
 x_7.G ∧
 Sw.conTab.pre x_8 ∧
 ∀ (y : PUnit), Sw.conTab.post x_8
 y →
 ∃ (x_9 :
 Sw.GOnly), Vx.Sub
 (Sw.conTab.G
 x_9)
 x_8.G ∧
 Sw.conTab.pre
 x_9 ∧
 ∀
 (y :
 PUnit), Sw.conTab.post
 x_9
 y →
 ∃ (y :
 PUnit), Sw.conAw29.post
 x
 y ∧
 Vx.Sub
 (Sw.conAw29.G'
 x
 y)
 x_9.G ∧
 True) ∧
 ((∃ (x_2 : Sw.GOnly), Vx.Sub (Sw.conDec5.G x_2) x_1.G ∧
 Sw.conDec5.pre x_2 ∧
 ∀ (y : PUnit), Sw.conDec5.post x_2 y →
 ∃ (x_3 : Sw.GOnly), Vx.Sub (Sw.conTab.G x_3) x_2.G ∧
 Sw.conTab.pre x_3 ∧
 ∀ (y : PUnit), Sw.conTab.post x_3 y →
 ∃ (x_4 : Sw.GOnly), Vx.Sub (Sw.conTab.G x_4) x_3.G ∧
 Sw.conTab.pre x_4 ∧
 ∀ (y : PUnit), Sw.conTab.post x_4 y →
 ∃ (x_5 : Sw.GOnly), Vx.Sub (Sw.conTab.G x_5) x_4.G ∧
 Sw.conTab.pre x_5 ∧
 ∀ (y : PUnit), Sw.conTab.post x_5 y →
 ∃ (x_6 : Sw.GOnly), Vx.Sub (Sw.conTab.G x_6) x_5.G ∧
 Sw.conTab.pre x_6 ∧
 ∀ (y : PUnit), Sw.conTab.post x_6 y →
 ∃ (x_7 : Sw.GOnly), Vx.Sub (Sw.conTab.G x_7) x_6.G ∧
 Sw.conTab.pre x_7 ∧
 ∀ (y : PUnit), Sw.conTab.post x_7 y →
 ∃ (x_8 : Sw.GOnly), Vx.Sub (Sw.conTab.G x_8)
 x_7.G ∧
 Sw.conTab.pre x_8 ∧
 ∀ (y : PUnit), Sw.conTab.post x_8
 y →
 ∃ (x_9 :
 Sw.GOnly), Vx.Sub
 (Sw.conTab.G
 x_9)
 x_8.G ∧
 Sw.conTab.pre
 x_9 ∧
 ∀
 (y :
 PUnit), Sw.conTab.post
 x_9
 y →
 ∃ (y :
 PUnit), Sw.conAw29.post
 x
 y ∧
 Vx.Sub
 (Sw.conAw29.G'
 x
 y)
 x_9.G ∧
 True) ∧
 ∃ (x_2 : Sw.GOnly), Vx.Sub (Sw.conDec5.G x_2) x_1.G ∧
 Sw.conDec5.pre x_2 ∧
 ∀ (y : PUnit), Sw.conDec5.post x_2 y →
 ∃ (x_3 : Sw.GOnly), Vx.Sub (Sw.conTab.G x_3) x_2.G ∧
 Sw.conTab.pre x_3 ∧
 ∀ (y : PUnit), Sw.conTab.post x_3 y →
 ∃ (x_4 : Sw.GOnly), Vx.Sub (Sw.conTab.G x_4) x_3.G ∧
 Sw.conTab.pre x_4 ∧
 ∀ (y : PUnit), Sw.conTab.post x_4 y →
 ∃ (x_5 : Sw.GOnly), Vx.Sub (Sw.conTab.G x_5) x_4.G ∧
 Sw.conTab.pre x_5 ∧
 ∀ (y : PUnit), Sw.conTab.post x_5 y →
 ∃ (x_6 : Sw.GOnly), Vx.Sub (Sw.conTab.G x_6) x_5.G ∧
 Sw.conTab.pre x_6 ∧
 ∀ (y : PUnit), Sw.conTab.post x_6 y →
 ∃ (x_7 : Sw.GOnly), Vx.Sub (Sw.conTab.G x_7) x_6.G ∧
 Sw.conTab.pre x_7 ∧
 ∀ (y : PUnit), Sw.conTab.post x_7 y →
 ∃ (x_8 : Sw.GOnly), Vx.Sub (Sw.conTab.G x_8)
 x_7.G ∧
 Sw.conTab.pre x_8 ∧
 ∀ (y : PUnit), Sw.conTab.post x_8
 y →
 ∃ (x_9 :
 Sw.GOnly), Vx.Sub
 (Sw.conTab.G
 x_9)
 x_8.G ∧
 Sw.conTab.pre
 x_9 ∧
 ∀
 (y :
 PUnit), Sw.conTab.post
 x_9
 y →
 ∃ (y :
 PUnit), Sw.conAw29.post
 x
 y ∧
 Vx.Sub
 (Sw.conAw29.G'
 x
 y)
 x_9.G ∧
 True) ∧
 ∃ (x_2 : Sw.GOnly), Vx.Sub (Sw.conDec5.G x_2) x_1.G ∧
 Sw.conDec5.pre x_2 ∧
 ∀ (y : PUnit), Sw.conDec5.post x_2 y →
 ∃ (x_3 : Sw.GOnly), Vx.Sub (Sw.conTab.G x_3) x_2.G ∧
 Sw.conTab.pre x_3 ∧
 ∀ (y : PUnit), Sw.conTab.post x_3 y →
 ∃ (x_4 : Sw.GOnly), Vx.Sub (Sw.conTab.G x_4) x_3.G ∧
 Sw.conTab.pre x_4 ∧
 ∀ (y : PUnit), Sw.conTab.post x_4 y →
 ∃ (x_5 : Sw.GOnly), Vx.Sub (Sw.conTab.G x_5) x_4.G ∧
 Sw.conTab.pre x_5 ∧
 ∀ (y : PUnit), Sw.conTab.post x_5 y →
 ∃ (x_6 : Sw.GOnly), Vx.Sub (Sw.conTab.G x_6) x_5.G ∧
 Sw.conTab.pre x_6 ∧
 ∀ (y : PUnit), Sw.conTab.post x_6 y →
 ∃ (x_7 : Sw.GOnly), Vx.Sub (Sw.conTab.G x_7) x_6.G ∧
 Sw.conTab.pre x_7 ∧
 ∀ (y : PUnit), Sw.conTab.post x_7 y →
 ∃ (x_8 : Sw.GOnly), Vx.Sub (Sw.conTab.G x_8)
 x_7.G ∧
 Sw.conTab.pre x_8 ∧
 ∀ (y : PUnit), Sw.conTab.post x_8 y →
 ∃ (x_9 : Sw.GOnly), Vx.Sub
 (Sw.conTab.G
 x_9)
 x_8.G ∧
 Sw.conTab.pre
 x_9 ∧
 ∀ (y : PUnit), Sw.conTab.post
 x_9 y →
 ∃ (y :
 PUnit), Sw.conAw29.post
 x
 y ∧
 Vx.Sub
 (Sw.conAw29.G'
 x
 y)
 x_9.G ∧
 True) ∧
 ((r.toList ==
 (ByteArray.mk
 #[57, 51, 48, 48, 53, 48, 48, 48]).toList) =
 Bool.false →
 ∃ (y : PUnit), Sw.conAw29.post x y ∧ False)) ∧
 ((y.toList ==
 (ByteArray.mk
 #[36, 79, 75, 35, 57, 97]).toList) =
 Bool.false →
 ∃ (y : PUnit), Sw.conAw29.post x y ∧ False)) := by kernel_rfl
end Sw
end
section
/- Calls, each by what it does. -/
namespace Vx
open Go
variable {P : Program}
theorem pick_ok {n f : Nat} {s t : SpecT} (hs : SpecOk P n s ∨ ExtOk P n s) (ht : SpecOk P f t ∨ ExtOk P f t) :
    SpecOk P f (bif Nat.beq f n then s else t) ∨ ExtOk P f (bif Nat.beq f n then s else t) := by
  cases h : Nat.beq f n
  · exact ht
  · have := beq_t h
    subst this
    exact hs
theorem pick1 {n f : Nat} {s t : SpecT} (hs : SpecOk P n s) (ht : SpecOk P f t) : SpecOk P f (bif Nat.beq f n then s else t) := by
  cases h : Nat.beq f n
  · exact ht
  · have := beq_t h
    subst this
    exact hs
theorem con_of {f : Nat} {S : Con} (h : ∃ T, SpecOk P f T ∧ S.Vc T) : SpecOk P f S.spec := by
  obtain ⟨T, h2, h1⟩ := h
  exact Con.sound h2 h1
end Vx
end
section
/- The awake function 29 answers true: what its calls need. -/
namespace Sw
set_option maxRecDepth 100000
open Go Go.Proofs Vx

theorem call29_ok : CallOk Tryz.prog call29 := by
  intro f
  unfold call29
  exact pick_ok (.inr ext130_ok) (pick_ok (.inl spec142) (pick_ok (.inl spec119w) (pick_ok (.inl spec33) (.inl (noSpec_ok _ f)))))
theorem ents29 (vs : Array Value) (w : World) : ∀ f ∈ fs29, (callFunc f vs).run Tryz.prog w = .ok (.enter f vs) w := by
  unfold fs29
  refine List.forall_mem_cons.2 ⟨Tryz.call20 vs w, ?_⟩
  refine List.forall_mem_cons.2 ⟨Tryz.call25 vs w, ?_⟩
  refine List.forall_mem_cons.2 ⟨Tryz.call26 vs w, ?_⟩
  refine List.forall_mem_cons.2 ⟨Tryz.call27 vs w, ?_⟩
  refine List.forall_mem_cons.2 ⟨Tryz.call43 vs w, ?_⟩
  refine List.forall_mem_cons.2 ⟨Tryz.call49 vs w, ?_⟩
  refine List.forall_mem_cons.2 ⟨Tryz.call55 vs w, ?_⟩
  refine List.forall_mem_cons.2 ⟨Tryz.call56 vs w, ?_⟩
  refine List.forall_mem_cons.2 ⟨Tryz.call57 vs w, ?_⟩
  refine List.forall_mem_cons.2 ⟨Tryz.call58 vs w, ?_⟩
  refine List.forall_mem_cons.2 ⟨Tryz.call59 vs w, ?_⟩
  refine List.forall_mem_cons.2 ⟨Tryz.call60 vs w, ?_⟩
  refine List.forall_mem_cons.2 ⟨Tryz.call65 vs w, ?_⟩
  refine List.forall_mem_cons.2 ⟨Tryz.call66 vs w, ?_⟩
  refine List.forall_mem_cons.2 ⟨Tryz.call67 vs w, ?_⟩
  refine List.forall_mem_cons.2 ⟨Tryz.call76 vs w, ?_⟩
  refine List.forall_mem_cons.2 ⟨Tryz.call79 vs w, ?_⟩
  refine List.forall_mem_cons.2 ⟨Tryz.call81 vs w, ?_⟩
  refine List.forall_mem_cons.2 ⟨Tryz.call82 vs w, ?_⟩
  refine List.forall_mem_cons.2 ⟨Tryz.call83 vs w, ?_⟩
  refine List.forall_mem_cons.2 ⟨Tryz.call84 vs w, ?_⟩
  refine List.forall_mem_cons.2 ⟨Tryz.call85 vs w, ?_⟩
  refine List.forall_mem_cons.2 ⟨Tryz.call86 vs w, ?_⟩
  refine List.forall_mem_cons.2 ⟨Tryz.call87 vs w, ?_⟩
  refine List.forall_mem_cons.2 ⟨Tryz.call88 vs w, ?_⟩
  refine List.forall_mem_cons.2 ⟨Tryz.call96 vs w, ?_⟩
  refine List.forall_mem_cons.2 ⟨Tryz.call97 vs w, ?_⟩
  refine List.forall_mem_cons.2 ⟨Tryz.call98 vs w, ?_⟩
  refine List.forall_mem_cons.2 ⟨Tryz.call99 vs w, ?_⟩
  refine List.forall_mem_cons.2 ⟨Tryz.call100 vs w, ?_⟩
  refine List.forall_mem_cons.2 ⟨Tryz.call101 vs w, ?_⟩
  refine List.forall_mem_cons.2 ⟨Tryz.call102 vs w, ?_⟩
  refine List.forall_mem_cons.2 ⟨Tryz.call103 vs w, ?_⟩
  refine List.forall_mem_cons.2 ⟨Tryz.call104 vs w, ?_⟩
  refine List.forall_mem_cons.2 ⟨Tryz.call105 vs w, ?_⟩
  refine List.forall_mem_cons.2 ⟨Tryz.call106 vs w, ?_⟩
  refine List.forall_mem_cons.2 ⟨Tryz.call107 vs w, ?_⟩
  refine List.forall_mem_cons.2 ⟨Tryz.call108 vs w, ?_⟩
  refine List.forall_mem_cons.2 ⟨Tryz.call109 vs w, ?_⟩
  refine List.forall_mem_cons.2 ⟨Tryz.call113 vs w, ?_⟩
  refine List.forall_mem_cons.2 ⟨Tryz.call114 vs w, ?_⟩
  refine List.forall_mem_cons.2 ⟨Tryz.call115 vs w, ?_⟩
  refine List.forall_mem_cons.2 ⟨Tryz.call116 vs w, ?_⟩
  refine List.forall_mem_cons.2 ⟨Tryz.call117 vs w, ?_⟩
  refine List.forall_mem_cons.2 ⟨Tryz.call122 vs w, ?_⟩
  refine List.forall_mem_cons.2 ⟨Tryz.call123 vs w, ?_⟩
  refine List.forall_mem_cons.2 ⟨Tryz.call124 vs w, ?_⟩
  refine List.forall_mem_cons.2 ⟨Tryz.call125 vs w, ?_⟩
  refine List.forall_mem_cons.2 ⟨Tryz.call126 vs w, ?_⟩
  refine List.forall_mem_cons.2 ⟨Tryz.call127 vs w, ?_⟩
  refine List.forall_mem_cons.2 ⟨Tryz.call128 vs w, ?_⟩
  refine List.forall_mem_cons.2 ⟨Tryz.call129 vs w, ?_⟩
  refine List.forall_mem_cons.2 ⟨Tryz.call131 vs w, ?_⟩
  refine List.forall_mem_cons.2 ⟨Tryz.call132 vs w, ?_⟩
  refine List.forall_mem_cons.2 ⟨Tryz.call133 vs w, ?_⟩
  refine List.forall_mem_cons.2 ⟨Tryz.call134 vs w, ?_⟩
  refine List.forall_mem_cons.2 ⟨Tryz.call135 vs w, ?_⟩
  refine List.forall_mem_cons.2 ⟨Tryz.call136 vs w, ?_⟩
  refine List.forall_mem_cons.2 ⟨Tryz.call137 vs w, ?_⟩
  refine List.forall_mem_cons.2 ⟨Tryz.call138 vs w, ?_⟩
  refine List.forall_mem_cons.2 ⟨Tryz.call139 vs w, ?_⟩
  refine List.forall_mem_cons.2 ⟨Tryz.call140 vs w, ?_⟩
  refine List.forall_mem_cons.2 ⟨Tryz.call141 vs w, ?_⟩
  refine List.forall_mem_cons.2 ⟨Tryz.call149 vs w, ?_⟩
  refine List.forall_mem_cons.2 ⟨Tryz.call150 vs w, ?_⟩
  refine List.forall_mem_cons.2 ⟨Tryz.call151 vs w, ?_⟩
  refine List.forall_mem_cons.2 ⟨Tryz.call152 vs w, ?_⟩
  refine List.forall_mem_cons.2 ⟨Tryz.call154 vs w, ?_⟩
  refine List.forall_mem_cons.2 ⟨Tryz.call157 vs w, ?_⟩
  refine List.forall_mem_cons.2 ⟨Tryz.call158 vs w, ?_⟩
  refine List.forall_mem_cons.2 ⟨Tryz.call159 vs w, ?_⟩
  refine List.forall_mem_cons.2 ⟨Tryz.call160 vs w, ?_⟩
  refine List.forall_mem_cons.2 ⟨Tryz.call161 vs w, ?_⟩
  refine List.forall_mem_cons.2 ⟨Tryz.call162 vs w, ?_⟩
  refine List.forall_mem_cons.2 ⟨Tryz.call163 vs w, ?_⟩
  refine List.forall_mem_cons.2 ⟨Tryz.call164 vs w, ?_⟩
  refine List.forall_mem_cons.2 ⟨Tryz.call165 vs w, ?_⟩
  refine List.forall_mem_cons.2 ⟨Tryz.call166 vs w, ?_⟩
  refine List.forall_mem_cons.2 ⟨Tryz.call167 vs w, ?_⟩
  refine List.forall_mem_cons.2 ⟨Tryz.call168 vs w, ?_⟩
  refine List.forall_mem_cons.2 ⟨Tryz.call169 vs w, ?_⟩
  refine List.forall_mem_cons.2 ⟨Tryz.call170 vs w, ?_⟩
  refine List.forall_mem_cons.2 ⟨Tryz.call171 vs w, ?_⟩
  refine List.forall_mem_cons.2 ⟨Tryz.call172 vs w, ?_⟩
  refine List.forall_mem_cons.2 ⟨Tryz.call173 vs w, ?_⟩
  refine List.forall_mem_cons.2 ⟨Tryz.call174 vs w, ?_⟩
  refine List.forall_mem_cons.2 ⟨Tryz.call175 vs w, ?_⟩
  refine List.forall_mem_cons.2 ⟨Tryz.call176 vs w, ?_⟩
  refine List.forall_mem_cons.2 ⟨Tryz.call177 vs w, ?_⟩
  refine List.forall_mem_cons.2 ⟨Tryz.call178 vs w, ?_⟩
  refine List.forall_mem_cons.2 ⟨Tryz.call179 vs w, ?_⟩
  refine List.forall_mem_cons.2 ⟨Tryz.call181 vs w, ?_⟩
  refine List.forall_mem_cons.2 ⟨Tryz.call183 vs w, ?_⟩
  refine List.forall_mem_cons.2 ⟨Tryz.call186 vs w, ?_⟩
  refine List.forall_mem_cons.2 ⟨Tryz.call187 vs w, ?_⟩
  refine List.forall_mem_cons.2 ⟨Tryz.call188 vs w, ?_⟩
  refine List.forall_mem_cons.2 ⟨Tryz.call189 vs w, ?_⟩
  refine List.forall_mem_cons.2 ⟨Tryz.call190 vs w, ?_⟩
  refine List.forall_mem_cons.2 ⟨Tryz.call191 vs w, ?_⟩
  refine List.forall_mem_cons.2 ⟨Tryz.call192 vs w, ?_⟩
  refine List.forall_mem_cons.2 ⟨Tryz.call193 vs w, ?_⟩
  refine List.forall_mem_cons.2 ⟨Tryz.call194 vs w, ?_⟩
  refine List.forall_mem_cons.2 ⟨Tryz.call195 vs w, ?_⟩
  refine List.forall_mem_cons.2 ⟨Tryz.call196 vs w, ?_⟩
  refine List.forall_mem_cons.2 ⟨Tryz.call197 vs w, ?_⟩
  refine List.forall_mem_cons.2 ⟨Tryz.call198 vs w, ?_⟩
  refine List.forall_mem_cons.2 ⟨Tryz.call199 vs w, ?_⟩
  refine List.forall_mem_cons.2 ⟨Tryz.call200 vs w, ?_⟩
  refine List.forall_mem_cons.2 ⟨Tryz.call201 vs w, ?_⟩
  refine List.forall_mem_cons.2 ⟨Tryz.call202 vs w, ?_⟩
  refine List.forall_mem_cons.2 ⟨Tryz.call203 vs w, ?_⟩
  refine List.forall_mem_cons.2 ⟨Tryz.call204 vs w, ?_⟩
  refine List.forall_mem_cons.2 ⟨Tryz.call205 vs w, ?_⟩
  refine List.forall_mem_cons.2 ⟨Tryz.call206 vs w, ?_⟩
  refine List.forall_mem_cons.2 ⟨Tryz.call207 vs w, ?_⟩
  refine List.forall_mem_cons.2 ⟨Tryz.call208 vs w, ?_⟩
  refine List.forall_mem_cons.2 ⟨Tryz.call209 vs w, ?_⟩
  refine List.forall_mem_cons.2 ⟨Tryz.call210 vs w, ?_⟩
  refine List.forall_mem_cons.2 ⟨Tryz.call212 vs w, ?_⟩
  refine List.forall_mem_cons.2 ⟨Tryz.call213 vs w, ?_⟩
  refine List.forall_mem_cons.2 ⟨Tryz.call214 vs w, ?_⟩
  refine List.forall_mem_cons.2 ⟨Tryz.call215 vs w, ?_⟩
  refine List.forall_mem_cons.2 ⟨Tryz.call216 vs w, ?_⟩
  refine List.forall_mem_cons.2 ⟨Tryz.call217 vs w, ?_⟩
  refine List.forall_mem_cons.2 ⟨Tryz.call218 vs w, ?_⟩
  refine List.forall_mem_cons.2 ⟨Tryz.call219 vs w, ?_⟩
  refine List.forall_mem_cons.2 ⟨Tryz.call220 vs w, ?_⟩
  refine List.forall_mem_cons.2 ⟨Tryz.call221 vs w, ?_⟩
  refine List.forall_mem_cons.2 ⟨Tryz.call222 vs w, ?_⟩
  refine List.forall_mem_cons.2 ⟨Tryz.call223 vs w, ?_⟩
  refine List.forall_mem_cons.2 ⟨Tryz.call224 vs w, ?_⟩
  refine List.forall_mem_cons.2 ⟨Tryz.call225 vs w, ?_⟩
  refine List.forall_mem_cons.2 ⟨Tryz.call226 vs w, ?_⟩
  refine List.forall_mem_cons.2 ⟨Tryz.call227 vs w, ?_⟩
  refine List.forall_mem_cons.2 ⟨Tryz.call228 vs w, ?_⟩
  refine List.forall_mem_cons.2 ⟨Tryz.call229 vs w, ?_⟩
  refine List.forall_mem_cons.2 ⟨Tryz.call230 vs w, ?_⟩
  refine List.forall_mem_cons.2 ⟨Tryz.call231 vs w, ?_⟩
  refine List.forall_mem_cons.2 ⟨Tryz.call232 vs w, ?_⟩
  refine List.forall_mem_cons.2 ⟨Tryz.call233 vs w, ?_⟩
  refine List.forall_mem_cons.2 ⟨Tryz.call234 vs w, ?_⟩
  refine List.forall_mem_cons.2 ⟨Tryz.call235 vs w, ?_⟩
  refine List.forall_mem_cons.2 ⟨Tryz.call236 vs w, ?_⟩
  refine List.forall_mem_cons.2 ⟨Tryz.call237 vs w, ?_⟩
  refine List.forall_mem_cons.2 ⟨Tryz.call238 vs w, ?_⟩
  refine List.forall_mem_cons.2 ⟨Tryz.call239 vs w, ?_⟩
  refine List.forall_mem_cons.2 ⟨Tryz.call240 vs w, ?_⟩
  refine List.forall_mem_cons.2 ⟨Tryz.call241 vs w, ?_⟩
  refine List.forall_mem_cons.2 ⟨Tryz.call242 vs w, ?_⟩
  refine List.forall_mem_cons.2 ⟨Tryz.call244 vs w, ?_⟩
  refine List.forall_mem_cons.2 ⟨Tryz.call245 vs w, ?_⟩
  refine List.forall_mem_cons.2 ⟨Tryz.call246 vs w, ?_⟩
  refine List.forall_mem_cons.2 ⟨Tryz.call247 vs w, ?_⟩
  refine List.forall_mem_cons.2 ⟨Tryz.call248 vs w, ?_⟩
  refine List.forall_mem_cons.2 ⟨Tryz.call249 vs w, ?_⟩
  refine List.forall_mem_cons.2 ⟨Tryz.call250 vs w, ?_⟩
  refine List.forall_mem_cons.2 ⟨Tryz.call251 vs w, ?_⟩
  refine List.forall_mem_cons.2 ⟨Tryz.call252 vs w, ?_⟩
  refine List.forall_mem_cons.2 ⟨Tryz.call253 vs w, ?_⟩
  refine List.forall_mem_cons.2 ⟨Tryz.call254 vs w, ?_⟩
  refine List.forall_mem_cons.2 ⟨Tryz.call255 vs w, ?_⟩
  refine List.forall_mem_cons.2 ⟨Tryz.call256 vs w, ?_⟩
  refine List.forall_mem_cons.2 ⟨Tryz.call257 vs w, ?_⟩
  refine List.forall_mem_cons.2 ⟨Tryz.call258 vs w, ?_⟩
  refine List.forall_mem_cons.2 ⟨Tryz.call259 vs w, ?_⟩
  refine List.forall_mem_cons.2 ⟨Tryz.call260 vs w, ?_⟩
  refine List.forall_mem_cons.2 ⟨Tryz.call261 vs w, ?_⟩
  refine List.forall_mem_cons.2 ⟨Tryz.call262 vs w, ?_⟩
  refine List.forall_mem_cons.2 ⟨Tryz.call263 vs w, ?_⟩
  refine List.forall_mem_cons.2 ⟨Tryz.call264 vs w, ?_⟩
  refine List.forall_mem_cons.2 ⟨Tryz.call265 vs w, ?_⟩
  refine List.forall_mem_cons.2 ⟨Tryz.call266 vs w, ?_⟩
  refine List.forall_mem_cons.2 ⟨Tryz.call267 vs w, ?_⟩
  refine List.forall_mem_cons.2 ⟨Tryz.call268 vs w, ?_⟩
  refine List.forall_mem_cons.2 ⟨Tryz.call269 vs w, ?_⟩
  refine List.forall_mem_cons.2 ⟨Tryz.call270 vs w, ?_⟩
  refine List.forall_mem_cons.2 ⟨Tryz.call271 vs w, ?_⟩
  refine List.forall_mem_cons.2 ⟨Tryz.call272 vs w, ?_⟩
  refine List.forall_mem_cons.2 ⟨Tryz.call273 vs w, ?_⟩
  refine List.forall_mem_cons.2 ⟨Tryz.call274 vs w, ?_⟩
  refine List.forall_mem_cons.2 ⟨Tryz.call275 vs w, ?_⟩
  refine List.forall_mem_cons.2 ⟨Tryz.call276 vs w, ?_⟩
  refine List.forall_mem_cons.2 ⟨Tryz.call277 vs w, ?_⟩
  refine List.forall_mem_cons.2 ⟨Tryz.call278 vs w, ?_⟩
  refine List.forall_mem_cons.2 ⟨Tryz.call279 vs w, ?_⟩
  refine List.forall_mem_cons.2 ⟨Tryz.call280 vs w, ?_⟩
  refine List.forall_mem_cons.2 ⟨Tryz.call281 vs w, ?_⟩
  refine List.forall_mem_cons.2 ⟨Tryz.call282 vs w, ?_⟩
  refine List.forall_mem_cons.2 ⟨Tryz.call283 vs w, ?_⟩
  refine List.forall_mem_cons.2 ⟨Tryz.call284 vs w, ?_⟩
  refine List.forall_mem_cons.2 ⟨Tryz.call285 vs w, ?_⟩
  refine List.forall_mem_cons.2 ⟨Tryz.call286 vs w, ?_⟩
  refine List.forall_mem_cons.2 ⟨Tryz.call287 vs w, ?_⟩
  refine List.forall_mem_cons.2 ⟨Tryz.call288 vs w, ?_⟩
  refine List.forall_mem_cons.2 ⟨Tryz.call289 vs w, ?_⟩
  refine List.forall_mem_cons.2 ⟨Tryz.call290 vs w, ?_⟩
  refine List.forall_mem_cons.2 ⟨Tryz.call291 vs w, ?_⟩
  refine List.forall_mem_cons.2 ⟨Tryz.call292 vs w, ?_⟩
  refine List.forall_mem_cons.2 ⟨Tryz.call293 vs w, ?_⟩
  refine List.forall_mem_cons.2 ⟨Tryz.call294 vs w, ?_⟩
  refine List.forall_mem_cons.2 ⟨Tryz.call295 vs w, ?_⟩
  refine List.forall_mem_cons.2 ⟨Tryz.call296 vs w, ?_⟩
  refine List.forall_mem_cons.2 ⟨Tryz.call297 vs w, ?_⟩
  refine List.forall_mem_cons.2 ⟨Tryz.call298 vs w, ?_⟩
  refine List.forall_mem_cons.2 ⟨Tryz.call299 vs w, ?_⟩
  refine List.forall_mem_cons.2 ⟨Tryz.call300 vs w, ?_⟩
  refine List.forall_mem_cons.2 ⟨Tryz.call301 vs w, ?_⟩
  refine List.forall_mem_cons.2 ⟨Tryz.call302 vs w, ?_⟩
  refine List.forall_mem_cons.2 ⟨Tryz.call303 vs w, ?_⟩
  refine List.forall_mem_cons.2 ⟨Tryz.call304 vs w, ?_⟩
  refine List.forall_mem_cons.2 ⟨Tryz.call305 vs w, ?_⟩
  refine List.forall_mem_cons.2 ⟨Tryz.call306 vs w, ?_⟩
  refine List.forall_mem_cons.2 ⟨Tryz.call307 vs w, ?_⟩
  refine List.forall_mem_cons.2 ⟨Tryz.call308 vs w, ?_⟩
  refine List.forall_mem_cons.2 ⟨Tryz.call309 vs w, ?_⟩
  refine List.forall_mem_cons.2 ⟨Tryz.call310 vs w, ?_⟩
  refine List.forall_mem_cons.2 ⟨Tryz.call311 vs w, ?_⟩
  refine List.forall_mem_cons.2 ⟨Tryz.call312 vs w, ?_⟩
  refine List.forall_mem_cons.2 ⟨Tryz.call313 vs w, ?_⟩
  refine List.forall_mem_cons.2 ⟨Tryz.call314 vs w, ?_⟩
  refine List.forall_mem_cons.2 ⟨Tryz.call315 vs w, ?_⟩
  intro f hf
  cases hf
theorem enter29 (f : Nat) (h : inl29 f = true) (vs : Array Value) (w : World) : (callFunc f vs).run Tryz.prog w = .ok (.enter f vs) w := by
  obtain ⟨x, h1, h2⟩ := List.any_eq_true.1 h
  have := beq_t h2
  subst this
  exact ents29 vs w f h1
theorem okAw29 : SpecOk Tryz.prog 25 bodyAw29 :=
  callD_spec c0_ok call29_ok (fun _ => ⟨fun _ => iter_ok _ 5000, fun _ => PieceOk.id _⟩) enter29 59 rfl
theorem toList_eq {a b : ByteArray} (h : a = b) : (a.toList == b.toList) = true := by subst h; exact beq_self_eq_true _
theorem frame_OK : strOf (frameL (bytesOf (ByteArray.mk #[79, 75]))) = ByteArray.mk #[36, 79, 75, 35, 57, 97] := by decide
theorem aw29_ex : ∃ T, SpecOk Tryz.prog 25 T ∧ conAw29.Vc T := by
  refine ⟨bodyAw29, okAw29, ?_⟩
  rw [aw29_vc]
  intro x _ vs _ _ c vs1 _ _ _ vs2 _ _ vs3 _ _
  refine ⟨⟨ByteArray.mk #[79, 75], x.G⟩, rfl, Sub.refl _, (by decide : (2 : Nat) ≤ 10000), fun y hy => ?_⟩
  have hy : y = strOf (frameL (bytesOf (ByteArray.mk #[79, 75]))) := hy
  have e := toList_eq (hy.trans frame_OK)
  refine ⟨fun _ vs4 _ _ vs5 _ _ r hr => ?_, fun h => by rw [e] at h; cases h⟩
  have e2 := toList_eq (hr.trans (by decide : strOf ((IL.fill (Int.toNat 0) 0 []).den ++ [57, 51, 48, 48, 53, 48, 48, 48]) = ByteArray.mk #[57, 51, 48, 48, 53, 48, 48, 48]))
  refine ⟨fun _ => ?_, fun h => by rw [e2] at h; cases h⟩
  repeat' first
    | exact ⟨(), trivial, Sub.refl _, trivial⟩
    | refine ⟨⟨x.G⟩, Sub.refl _, trivial, fun _ _ => ?_⟩
    | refine And.intro ?_ ?_
end Sw
end
section
/- The awake function of gdb's laws answers true. -/
namespace Sw
set_option maxRecDepth 100000
open Go Go.Proofs Vx
theorem spec25 : SpecOk Tryz.prog 25 conAw29.spec := con_of aw29_ex
end Sw
end
section
/- The laws GdbHex and GdbFrames; gdb.Unframe and what it calls. -/
namespace Sw
set_option maxRecDepth 100000
open Go Go.Proofs Vx

structure Law7X where
  p : Option Addr
  l : Nat
  c : Nat
  d : List Int
  s : ByteArray
  G : Nat → Option Obj
def conLaw7 : Con where
  X := Law7X
  n := 0
  args x := [.gsl x.p (.v x.l) (.v x.c), .str (.v x.s)]
  heap _ := []
  G x := x.G
  pre x := Bs x.G x.p x.l x.c x.d ∧ x.l < 9223372036854775808 ∧ x.s.size < 9223372036854775808
  Y := Nat → Option Obj
  m := 0
  post x y := Sub x.G y
  res _ _ := .bool (.v true)
  heap' _ _ := []
  G' _ y := y
noncomputable def call7 (f : Nat) : SpecT :=
  bif Nat.beq f 25 then conAw29.spec else
  bif Nat.beq f 27 then conHex.spec else
  bif Nat.beq f 29 then conHex.spec else
  bif Nat.beq f 26 then conUnhex.spec else
  bif Nat.beq f 28 then conUnhex.spec else
  bif Nat.beq f 13 then conCmpG.spec else
  bif Nat.beq f 30 then conSumS.spec else
  bif Nat.beq f 31 then conSumS.spec else noSpec
noncomputable def body7 : SpecT := body call7 (fun _ bx => iter bx 0) 7
/-- A packet's bytes, read. -/
def plainL : List Int → Option (List Int)
  | [] => some []
  | 125 :: r => (match r with
    | [] => none
    | c :: r => (plainL r).map (turn5 c :: ·))
  | c :: r => (plainL r).map (c :: ·)
structure PlainI where
  i : Nat
  xs : List Int
  vs : List Value
def conPlain : Con where
  X := StrX
  n := 0
  args x := [.str (.v x.s)]
  heap _ := []
  G x := x.G
  pre x := x.s.size ≤ 10000
  Y := Option ByteArray
  m := 0
  post x y := y = (plainL (bytesOf x.s)).map strOf
  res _ y := .tup (.cons (.str (.v (y.getD ByteArray.empty))) (.cons (.bool (.v y.isSome)) .nil))
  heap' _ _ := []
  G' x _ := x.G
def plainLoop (x : StrX) : LoopS where
  X := PlainI
  f := 0
  m := 1
  tmps z := [(0, .str (.v x.s)), (4, obs 0 z.xs z.vs), (5, .int .i64 (.v z.i))]
  heap z := [(0, obh .u8 5 z.xs z.vs)]
  G _ := x.G
  inv z := z.i ≤ x.s.size ∧ x.s.size ≤ 10000 ∧ z.xs.length ≤ z.i ∧ plainL (bytesOf x.s) = (plainL ((bytesOf x.s).drop z.i)).map (z.xs ++ ·)
  mea z := x.s.size - z.i
noncomputable def body74 : SpecT := body (fun _ => noSpec) (fun _ => famL plainLoop) 74
end Sw
end
section
/- What GdLaw's conditions come to, word for word: made by a program. -/
set_option maxRecDepth 100000
set_option linter.unusedVariables false
namespace Sw
open Go Go.Proofs Vx
theorem law7_vc : (conLaw7.Vc body7) = (
∀ (x : Sw.Law7X), Sw.conLaw7.pre x →
 ∃ (x_1 : Sw.GOnly), Vx.Sub (Sw.conAw29.G x_1) x.G ∧
 Sw.conAw29.pre x_1 ∧
 ∀ (y : PUnit), Sw.conAw29.post x_1 y →
 (Decidable.decide ((↑x.l : Int) > (300 : Int)) = Bool.true →
 ∃ (y : Nat → Option Go.Obj), Sw.conLaw7.post x y ∧ Bool.true = Bool.true ∧ Vx.Sub (Sw.conLaw7.G' x y) x_1.G ∧ True) ∧
 (Decidable.decide ((↑x.l : Int) > (300 : Int)) = Bool.false →
 (Decidable.decide ((↑x.s.size : Int) > (300 : Int)) = Bool.true →
 ∃ (y : Nat → Option Go.Obj), Sw.conLaw7.post x y ∧ Bool.true = Bool.true ∧ Vx.Sub (Sw.conLaw7.G' x y) x_1.G ∧ True) ∧
 (Decidable.decide ((↑x.s.size : Int) > (300 : Int)) = Bool.false →
 ∃ (x_2 : Sw.BsX), x_2.p = x.p ∧
 x_2.l = x.l ∧
 x_2.c = x.c ∧
 Vx.Sub (Sw.conHex.G x_2) x_1.G ∧
 Sw.conHex.pre x_2 ∧
 ∀ (y : ByteArray), Sw.conHex.post x_2 y →
 ∃ (x_3 : Sw.StrX), x_3.s = y ∧
 Vx.Sub (Sw.conUnhex.G x_3) x_2.G ∧
 Sw.conUnhex.pre x_3 ∧
 ∀ (y : Sw.MayY), Sw.conUnhex.post x_3 y →
 ∃ (x_4 : Sw.StrX), x_4.s = x.s ∧
 Vx.Sub (Sw.conUnhex.G x_4) y.G ∧
 Sw.conUnhex.pre x_4 ∧
 ∀ (y_1 : Sw.MayY), Sw.conUnhex.post x_4 y_1 →
 ∃ (x_5 : Sw.StrX), x_5.s = x.s ∧
 Vx.Sub (Sw.conUnhex.G x_5) y_1.G ∧
 Sw.conUnhex.pre x_5 ∧
 ∀ (y_2 : Sw.MayY), Sw.conUnhex.post x_5 y_2 →
 ∃ (x_6 : Sw.BsX), x_6.p = x.p ∧
 x_6.l = x.l ∧
 x_6.c = x.c ∧
 Vx.Sub (Sw.conHex.G x_6) y_2.G ∧
 Sw.conHex.pre x_6 ∧
 ∀ (y_3 : ByteArray), Sw.conHex.post x_6 y_3 →
 ∃ (x_7 : Sw.BsX), x_7.p = x.p ∧
 x_7.l = x.l ∧
 x_7.c = x.c ∧
 Vx.Sub (Sw.conHex.G x_7) x_6.G ∧
 Sw.conHex.pre x_7 ∧
 ∀ (y_4 : ByteArray), Sw.conHex.post x_7 y_4 →
 ((y_3.toList == y_4.toList) = Bool.true →
 (y.ok = Bool.true →
 ∃ (x_8 : Sw.TwoBs), x_8.p = y.p ∧
 x_8.l = y.l ∧
 x_8.c = y.c ∧
 x_8.p2 = x.p ∧
 x_8.l2 = x.l ∧
 x_8.c2 = x.c ∧
 Vx.Sub (Sw.conCmpG.G x_8)
 x_7.G ∧
 Sw.conCmpG.pre x_8 ∧
 ∀ (y : Bool), Sw.conCmpG.post x_8 y →
 (y = Bool.true →
 ((bif
 Bool.false then
 !y_1.ok ==
 y_2.ok
 else
 y_1.ok ==
 y_2.ok) =
 Bool.true →
 ∃ (x_9 :
 Sw.TwoBs), x_9.p =
 y_1.p ∧
 x_9.l =
 y_1.l ∧
 x_9.c =
 y_1.c ∧
 x_9.p2 =
 y_2.p ∧
 x_9.l2 =
 y_2.l ∧
 x_9.c2 =
 y_2.c ∧
 Vx.Sub
 (Sw.conCmpG.G
 x_9)
 x_8.G ∧
 Sw.conCmpG.pre
 x_9 ∧
 ∀
 (y :
 Bool), Sw.conCmpG.post
 x_9
 y →
 (y =
 Bool.true →
 ∃
 (x_10
 :
 Sw.StrX), x_10.s =
 x.s ∧
 Vx.Sub
 (Sw.conSumS.G
 x_10)
 x_9.G ∧
 Sw.conSumS.pre
 x_10 ∧
 ∀
 (y :
 Int), Sw.conSumS.post
 x_10
 y →
 ∃
 (x_11
 :
 Sw.StrX), x_11.s =
 x.s ∧
 Vx.Sub
 (Sw.conSumS.G
 x_11)
 x_10.G ∧
 Sw.conSumS.pre
 x_11 ∧
 ∀
 (y_5 :
 Int), Sw.conSumS.post
 x_11
 y_5 →
 ∃
 (y_6
 :
 Nat →
 Option
 Go.Obj), Sw.conLaw7.post
 x
 y_6 ∧
 Bool.true =
 (y ==
 y_5) ∧
 Vx.Sub
 (Sw.conLaw7.G'
 x
 y_6)
 x_11.G ∧
 True) ∧
 (y =
 Bool.false →
 ∃
 (y
 :
 Nat →
 Option
 Go.Obj), Sw.conLaw7.post
 x
 y ∧
 Bool.true =
 Bool.false ∧
 Vx.Sub
 (Sw.conLaw7.G'
 x
 y)
 x_9.G ∧
 True)) ∧
 ((bif
 Bool.false then
 !y_1.ok ==
 y_2.ok
 else
 y_1.ok ==
 y_2.ok) =
 Bool.false →
 ∃ (y :
 Nat →
 Option
 Go.Obj), Sw.conLaw7.post
 x y ∧
 Bool.true =
 Bool.false ∧
 Vx.Sub
 (Sw.conLaw7.G'
 x y)
 x_8.G ∧
 True)) ∧
 (y = Bool.false →
 ∃ (y :
 Nat →
 Option Go.Obj), Sw.conLaw7.post x
 y ∧
 Bool.true =
 Bool.false ∧
 Vx.Sub
 (Sw.conLaw7.G'
 x y)
 x_8.G ∧
 True)) ∧
 (y.ok = Bool.false →
 ∃ (y : Nat → Option Go.Obj), Sw.conLaw7.post x y ∧
 Bool.true = Bool.false ∧
 Vx.Sub (Sw.conLaw7.G' x y) x_7.G ∧
 True)) ∧
 ((y_3.toList == y_4.toList) = Bool.false →
 ∃ (y : Nat → Option Go.Obj), Sw.conLaw7.post x y ∧
 Bool.true = Bool.false ∧
 Vx.Sub (Sw.conLaw7.G' x y) x_7.G ∧ True)))) := by kernel_rfl
theorem plain_vc : (conPlain.Vc body74) = (
∀ (x : Sw.StrX), Sw.conPlain.pre x →
 ∃ (g : Sw.StrX), ∃ (x0 : Sw.PlainI), g.s = x.s ∧
 x0.xs.length = (0 : Nat) ∧
 x0.xs.length + x0.vs.length = (0 : Nat) ∧
 (↑x0.i : Int) = (0 : Int) ∧
 x0.xs = [] ∧
 x0.xs.length = (0 : Nat) ∧
 x0.vs = [] ∧
 x0.vs.length = (0 : Nat) ∧
 Vx.Sub ((Sw.plainLoop g).G x0) x.G ∧
 (Sw.plainLoop g).inv x0 ∧
 ∀ (x_1 : Sw.PlainI), (Sw.plainLoop g).inv x_1 →
 ∀ (d : Nat → Go.Value), (Decidable.decide ((↑x_1.i : Int) < (↑g.s.size : Int)) = Bool.true →
 ((0 : Int) ≤ (↑x_1.i : Int) ∧ (↑x_1.i : Int) < (↑g.s.size : Int)) ∧
 ((0 : Int) ≤ (↑x_1.i : Int) ∧ (↑x_1.i : Int) < (↑g.s.size : Int) →
 ((Vx.byteAt g.s (↑x_1.i : Int) == (125 : Int)) = Bool.true →
 ∀ (r : Int), r = Go.IntKind.i64.wrap ((↑x_1.i : Int) + (1 : Int)) →
 ((r == (↑g.s.size : Int)) = Bool.true →
 ∃ (y : Option ByteArray), Sw.conPlain.post x y ∧
 y.getD ByteArray.empty = ByteArray.mk #[] ∧
 y.isSome = Bool.false ∧ Vx.Sub (Sw.conPlain.G' x y) g.G ∧ True) ∧
 ((r == (↑g.s.size : Int)) = Bool.false →
 ((0 : Int) ≤ r ∧ r < (↑g.s.size : Int)) ∧
 ((0 : Int) ≤ r ∧ r < (↑g.s.size : Int) →
 ∀ (r_1 : Int), r_1 = Vx.bits Go.BinOp.xor Go.IntKind.u8 (Vx.byteAt g.s r) (32 : Int) →
 x_1.xs.length + (1 : Nat) ≤ (140737488355328 : Nat) ∧
 (x_1.xs.length + (1 : Nat) ≤ (140737488355328 : Nat) →
 x_1.xs.length + (1 : Nat) ≤ (9223372036854775807 : Nat) ∧
 (x_1.xs.length + (1 : Nat) ≤ (9223372036854775807 : Nat) →
 x_1.xs.length = x_1.xs.length ∧
 (x_1.xs.length = x_1.xs.length →
 x_1.vs.length = x_1.xs.length + x_1.vs.length - x_1.xs.length ∧
 (x_1.vs.length = x_1.xs.length + x_1.vs.length - x_1.xs.length →
 x_1.xs.length ≤ x_1.xs.length + x_1.vs.length ∧
 (x_1.xs.length ≤ x_1.xs.length + x_1.vs.length →
 ∀ (c : Nat) (vs : List Go.Value), x_1.xs.length + (1 : Nat) ≤ c →
 vs.length = (c - (x_1.xs.length + (1 : Nat))) * (1 : Nat) →
 (∀ (v : Go.Value), v ∈ vs → v.oneCell' = Bool.true) →
 ∀ (r_2 : Int), r_2 = Go.IntKind.i64.wrap (r + (1 : Int)) →
 ∃ (x' : Sw.PlainI), (Sw.plainLoop g).inv x' ∧
 (Sw.plainLoop g).mea x' < (Sw.plainLoop g).mea x_1 ∧
 g.s = g.s ∧
 x'.xs.length = x_1.xs.length + (1 : Nat) ∧
 x'.xs.length + x'.vs.length = c ∧
 (↑x'.i : Int) = r_2 ∧
 x'.xs = x_1.xs ++ [r_1] ∧
 x'.xs.length = x_1.xs.length + (1 : Nat) ∧
 x'.vs = vs ∧
 x'.vs.length =
 (c - (x_1.xs.length + (1 : Nat))) *
 (1 : Nat) ∧
 Vx.Sub ((Sw.plainLoop g).G x') g.G ∧
 True)))))))) ∧
 ((Vx.byteAt g.s (↑x_1.i : Int) == (125 : Int)) = Bool.false →
 x_1.xs.length + (1 : Nat) ≤ (140737488355328 : Nat) ∧
 (x_1.xs.length + (1 : Nat) ≤ (140737488355328 : Nat) →
 x_1.xs.length + (1 : Nat) ≤ (9223372036854775807 : Nat) ∧
 (x_1.xs.length + (1 : Nat) ≤ (9223372036854775807 : Nat) →
 x_1.xs.length = x_1.xs.length ∧
 (x_1.xs.length = x_1.xs.length →
 x_1.vs.length = x_1.xs.length + x_1.vs.length - x_1.xs.length ∧
 (x_1.vs.length = x_1.xs.length + x_1.vs.length - x_1.xs.length →
 x_1.xs.length ≤ x_1.xs.length + x_1.vs.length ∧
 (x_1.xs.length ≤ x_1.xs.length + x_1.vs.length →
 ∀ (c : Nat) (vs : List Go.Value), x_1.xs.length + (1 : Nat) ≤ c →
 vs.length = (c - (x_1.xs.length + (1 : Nat))) * (1 : Nat) →
 (∀ (v : Go.Value), v ∈ vs → v.oneCell' = Bool.true) →
 ∀ (r : Int), r = Go.IntKind.i64.wrap ((↑x_1.i : Int) + (1 : Int)) →
 ∃ (x' : Sw.PlainI), (Sw.plainLoop g).inv x' ∧
 (Sw.plainLoop g).mea x' < (Sw.plainLoop g).mea x_1 ∧
 g.s = g.s ∧
 x'.xs.length = x_1.xs.length + (1 : Nat) ∧
 x'.xs.length + x'.vs.length = c ∧
 (↑x'.i : Int) = r ∧
 x'.xs = x_1.xs ++ [Vx.byteAt g.s (↑x_1.i : Int)] ∧
 x'.xs.length = x_1.xs.length + (1 : Nat) ∧
 x'.vs = vs ∧
 x'.vs.length = (c - (x_1.xs.length + (1 : Nat))) * (1 : Nat) ∧
 Vx.Sub ((Sw.plainLoop g).G x') g.G ∧ True)))))))) ∧
 (Decidable.decide ((↑x_1.i : Int) < (↑g.s.size : Int)) = Bool.false →
 (0 : Nat) + x_1.xs.length ≤ x_1.xs.length ∧
 ((0 : Nat) + x_1.xs.length ≤ x_1.xs.length →
 ∀ (ys : List Int), ys = List.take x_1.xs.length (List.drop (0 : Nat) x_1.xs) →
 ∀ (r : ByteArray), r = Vx.strOf (ys ++ []) →
 ∃ (y : Option ByteArray), Sw.conPlain.post x y ∧
 y.getD ByteArray.empty = r ∧ y.isSome = Bool.true ∧ Vx.Sub (Sw.conPlain.G' x y) g.G ∧ True))) := by kernel_rfl
end Sw
end
