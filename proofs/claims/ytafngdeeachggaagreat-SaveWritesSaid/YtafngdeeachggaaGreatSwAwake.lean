/- vireolaw27.awake: followed as it is. -/
import Derived.Test.YtafngdeeachggaaGreatSwBase
set_option linter.unusedVariables false
set_option linter.unusedSimpArgs false
namespace Sw
open Go Go.Proofs Vx

def awakeFs : List Nat := [10, 20, 36, 37, 38, 39, 43, 55, 56, 57, 58, 59, 60, 75, 76, 79, 81, 82, 83, 84, 85, 86, 87, 88, 106, 107, 108, 109, 113, 114, 115, 116, 117]
def inl27 (f : Nat) : Bool := awakeFs.contains f
structure GX where
  G : Nat → Option Obj
def conAwake : Con where
  X := GX
  n := 0
  args _ := []
  heap _ := []
  G x := x.G
  pre _ := True
  Y := Unit
  m := 0
  post _ _ := True
  res _ _ := .bool (.lit true)
  heap' _ _ := []
  G' x _ := x.G
def rounds : Ways where
  loop _ bx := iter bx 5000
noncomputable def body10 : SpecT := callD C0 (fun _ => noSpec) (fun _ => rounds) inl27 60 10
end Sw
