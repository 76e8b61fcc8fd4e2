/- vireolaw27.SaveWrites: what it does. -/
import Derived.Test.YtafngdeeachggaaGreatSwRefB
import Derived.Test.YtafngdeeachggaaGreatSwAwake
set_option linter.unusedVariables false
set_option linter.unusedSimpArgs false
namespace Sw
open Go Go.Proofs Vx

def conLaw : Con where
  X := RecX
  n := 0
  args x := [.agg (recRow x)]
  heap x := []
  G x := x.G
  pre x := RecOk x
  Y := Unit
  m := 0
  post _ _ := True
  res _ _ := .bool (.v true)
  heap' _ _ := []
  G' x _ := x.G
noncomputable def call3 (f : Nat) : SpecT :=
  bif Nat.beq f 10 then conAwake.spec else
  bif Nat.beq f 11 then conFew.spec else
  bif Nat.beq f 12 then conKinds.spec else
  bif Nat.beq f 14 then conBytes.spec else
  bif Nat.beq f 16 then body (fun _ => noSpec) (fun _ bx => iter bx 0) 16 else
  bif Nat.beq f 15 then conRef.spec else
  bif Nat.beq f 13 then conCmp.spec else noSpec
noncomputable def body3 : SpecT := body call3 (fun _ bx => iter bx 0) 3
end Sw
