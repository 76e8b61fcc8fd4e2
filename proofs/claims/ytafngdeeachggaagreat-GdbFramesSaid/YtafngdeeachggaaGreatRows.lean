/-
  No cell of these rows narrows 'for every input' (looked for: loops, veiled, ifaces, maps, wideKeys, modest, calm, conditions, laid).
  DERIVED. THE GIVEN ROWS OF THIS SEAT. 7 by the template 'for every input the law returns true; each argument reads behind the call as it read before'; 0 by the template 'total and deterministic' (their statements: YtafngdeeachggaaGreatTotals.lean).
  GIVEN WITH THE SEED: the statements are not yours to turn. If you find one false, say at which input.
  Laid BY PROGRAM, IN A SANDBOX (cutbox-rows.mjs): the forced cells as the released guide's own fill.sh prints them over the translation a60366ef28691811… (all of the seat's roots in one cut). By AI agents, Wed Nov 11 2026. No macro, syntax, notation, axiom, sorry.
-/
import Derived.Test.YtafngdeeachggaaGreatChecked
import GoSem.Claim
import GoSem.ClaimJoined
import GoSem.ClaimMapViews
import Derived.JoinedTies
import Derived.KernelRfl
namespace Go.Proofs.YtafngdeeachggaaGreat
/- THE CELL 'sum', in the pinned program and in every row, IS THE sha256 OF THE DUMP (.gsa) THAT YtafngdeeachggaaGreatProg.lean LOADS. Nothing in Lean hashes anything: it is a label: what it is worth is what the hold of that sum in a sandbox is worth. -/
noncomputable def Tryz.pinned : Pinned := { name := "ytafngdeeachggaagreat", sum := "a60366ef286918113cf856ae973434c038900d69208c88109857177300aa13bf", checked := Tryz.checked }
namespace Rows
def none {H : Type} : Left H := { results := [], args := [] }

/-- 'vireolaw27.SaveWrites': WHATEVER THE INPUT: true; the input reads as it did. -/
def saveWritesSpec : ChangeSpec := { name := "saveWrites", fn := fun _ => fun
  | [d] => { results := [.lit (.bool true)], args := [d] }
  | _ => none }
def saveWritesRow : OpenClaim := { program := "ytafngdeeachggaagreat", sum := "a60366ef286918113cf856ae973434c038900d69208c88109857177300aa13bf", func := "vireo/vireolaw27.SaveWrites", spec := "saveWrites", unfollowed := true, recurses := true, apart := false }
def SaveWritesSaid : Prop := saveWritesRow.holds Tryz.pinned (OpenSpec.ofChange saveWritesSpec)

/-- ITS FALSE NEIGHBOUR: 'it returns false'. Refute it at one input. -/
def saveWritesWrong : ChangeSpec := { name := "saveWrites", fn := fun _ => fun
  | [d] => { results := [.lit (.bool false)], args := [d] }
  | _ => none }
def SaveWritesWrongFalsely : Prop := saveWritesRow.holds Tryz.pinned (OpenSpec.ofChange saveWritesWrong)

/-- 'vireolaw27.SaveBack': WHATEVER THE INPUT: true; the input reads as it did. -/
def saveBackSpec : ChangeSpec := { name := "saveBack", fn := fun _ => fun
  | [d] => { results := [.lit (.bool true)], args := [d] }
  | _ => none }
def saveBackRow : OpenClaim := { program := "ytafngdeeachggaagreat", sum := "a60366ef286918113cf856ae973434c038900d69208c88109857177300aa13bf", func := "vireo/vireolaw27.SaveBack", spec := "saveBack", unfollowed := true, recurses := true, apart := false }
def SaveBackSaid : Prop := saveBackRow.holds Tryz.pinned (OpenSpec.ofChange saveBackSpec)

/-- ITS FALSE NEIGHBOUR: 'it returns false'. Refute it at one input. -/
def saveBackWrong : ChangeSpec := { name := "saveBack", fn := fun _ => fun
  | [d] => { results := [.lit (.bool false)], args := [d] }
  | _ => none }
def SaveBackWrongFalsely : Prop := saveBackRow.holds Tryz.pinned (OpenSpec.ofChange saveBackWrong)

/-- 'vireolaw27.SaveParses': WHATEVER THE INPUT: true; the input reads as it did. -/
def saveParsesSpec : ChangeSpec := { name := "saveParses", fn := fun _ => fun
  | [d] => { results := [.lit (.bool true)], args := [d] }
  | _ => none }
def saveParsesRow : OpenClaim := { program := "ytafngdeeachggaagreat", sum := "a60366ef286918113cf856ae973434c038900d69208c88109857177300aa13bf", func := "vireo/vireolaw27.SaveParses", spec := "saveParses", unfollowed := true, recurses := true, apart := false }
def SaveParsesSaid : Prop := saveParsesRow.holds Tryz.pinned (OpenSpec.ofChange saveParsesSpec)

/-- ITS FALSE NEIGHBOUR: 'it returns false'. Refute it at one input. -/
def saveParsesWrong : ChangeSpec := { name := "saveParses", fn := fun _ => fun
  | [d] => { results := [.lit (.bool false)], args := [d] }
  | _ => none }
def SaveParsesWrongFalsely : Prop := saveParsesRow.holds Tryz.pinned (OpenSpec.ofChange saveParsesWrong)

/-- 'vireolaw30.TraceRooms': WHATEVER THE INPUT: true; the input reads as it did. -/
def traceRoomsSpec : ChangeSpec := { name := "traceRooms", fn := fun _ => fun
  | [d1, d2, d3] => { results := [.lit (.bool true)], args := [d1, d2, d3] }
  | _ => none }
def traceRoomsRow : OpenClaim := { program := "ytafngdeeachggaagreat", sum := "a60366ef286918113cf856ae973434c038900d69208c88109857177300aa13bf", func := "vireo/vireolaw30.TraceRooms", spec := "traceRooms", inPlace := ["internal/abi.NoEscape", "internal/bytealg.MakeNoZero"], unfollowed := true, recurses := true, apart := false }
def TraceRoomsSaid : Prop := traceRoomsRow.holds Tryz.pinned (OpenSpec.ofChange traceRoomsSpec)

/-- ITS FALSE NEIGHBOUR: 'it returns false'. Refute it at one input. -/
def traceRoomsWrong : ChangeSpec := { name := "traceRooms", fn := fun _ => fun
  | [d1, d2, d3] => { results := [.lit (.bool false)], args := [d1, d2, d3] }
  | _ => none }
def TraceRoomsWrongFalsely : Prop := traceRoomsRow.holds Tryz.pinned (OpenSpec.ofChange traceRoomsWrong)

/-- 'vireolaw29.GdbHex': WHATEVER THE INPUT: true; the input reads as it did. -/
def gdbHexSpec : ChangeSpec := { name := "gdbHex", fn := fun _ => fun
  | [d1, d2] => { results := [.lit (.bool true)], args := [d1, d2] }
  | _ => none }
def gdbHexRow : OpenClaim := { program := "ytafngdeeachggaagreat", sum := "a60366ef286918113cf856ae973434c038900d69208c88109857177300aa13bf", func := "vireo/vireolaw29.GdbHex", spec := "gdbHex", inPlace := ["internal/bytealg.IndexByteString", "internal/bytealg.IndexString"], unfollowed := true, recurses := true, named := ["internal/bytealg.MaxLen"], apart := false }
def GdbHexSaid : Prop := gdbHexRow.holds Tryz.pinned (OpenSpec.ofChange gdbHexSpec)

/-- ITS FALSE NEIGHBOUR: 'it returns false'. Refute it at one input. -/
def gdbHexWrong : ChangeSpec := { name := "gdbHex", fn := fun _ => fun
  | [d1, d2] => { results := [.lit (.bool false)], args := [d1, d2] }
  | _ => none }
def GdbHexWrongFalsely : Prop := gdbHexRow.holds Tryz.pinned (OpenSpec.ofChange gdbHexWrong)

/-- 'vireolaw29.GdbBack': WHATEVER THE INPUT: true; the input reads as it did. -/
def gdbBackSpec : ChangeSpec := { name := "gdbBack", fn := fun _ => fun
  | [d1, d2, d3] => { results := [.lit (.bool true)], args := [d1, d2, d3] }
  | _ => none }
def gdbBackRow : OpenClaim := { program := "ytafngdeeachggaagreat", sum := "a60366ef286918113cf856ae973434c038900d69208c88109857177300aa13bf", func := "vireo/vireolaw29.GdbBack", spec := "gdbBack", inPlace := ["internal/bytealg.IndexByteString", "internal/bytealg.IndexString"], unfollowed := true, recurses := true, named := ["internal/bytealg.MaxLen"], apart := false }
def GdbBackSaid : Prop := gdbBackRow.holds Tryz.pinned (OpenSpec.ofChange gdbBackSpec)

/-- ITS FALSE NEIGHBOUR: 'it returns false'. Refute it at one input. -/
def gdbBackWrong : ChangeSpec := { name := "gdbBack", fn := fun _ => fun
  | [d1, d2, d3] => { results := [.lit (.bool false)], args := [d1, d2, d3] }
  | _ => none }
def GdbBackWrongFalsely : Prop := gdbBackRow.holds Tryz.pinned (OpenSpec.ofChange gdbBackWrong)

/-- 'vireolaw29.GdbFrames': WHATEVER THE INPUT: true; the input reads as it did. -/
def gdbFramesSpec : ChangeSpec := { name := "gdbFrames", fn := fun _ => fun
  | [d1, d2, d3] => { results := [.lit (.bool true)], args := [d1, d2, d3] }
  | _ => none }
def gdbFramesRow : OpenClaim := { program := "ytafngdeeachggaagreat", sum := "a60366ef286918113cf856ae973434c038900d69208c88109857177300aa13bf", func := "vireo/vireolaw29.GdbFrames", spec := "gdbFrames", inPlace := ["internal/bytealg.IndexByteString", "internal/bytealg.IndexString"], unfollowed := true, recurses := true, named := ["internal/bytealg.MaxLen"], apart := false }
def GdbFramesSaid : Prop := gdbFramesRow.holds Tryz.pinned (OpenSpec.ofChange gdbFramesSpec)

/-- ITS FALSE NEIGHBOUR: 'it returns false'. Refute it at one input. -/
def gdbFramesWrong : ChangeSpec := { name := "gdbFrames", fn := fun _ => fun
  | [d1, d2, d3] => { results := [.lit (.bool false)], args := [d1, d2, d3] }
  | _ => none }
def GdbFramesWrongFalsely : Prop := gdbFramesRow.holds Tryz.pinned (OpenSpec.ofChange gdbFramesWrong)

/- THE SECOND FORM. 'bulk': how many values and letters a reading holds, each counted each time it is reached (what is shared counts as often as it is met; a slice's spare places count too). A statement '..UptoSaid' is the law's where the arguments, and the package variables that the reading takes, are together of bulk at most 1048576: NARROWER than '..Said'. Prove '..Said' where nothing that the law and all that it calls make is longer than what came in: it says more and counts as full. Else prove '..UptoSaid'. A law counts once. -/
mutual
def uptoBulk {H : Type} : DataW H → Nat
  | .lit (.string bytes) => bytes.length + 1
  | .lit _ => 1
  | .nil => 1
  | .ptr d => uptoBulk d + 1
  | .slice elems spare => uptoBulkAll elems + uptoBulkAll spare + 1
  | .agg parts => uptoBulkAll parts + 1
  | .iface _ d => uptoBulk d + 1
  | .map entries => uptoBulkEntries entries + 1
  | .held _ => 1
def uptoBulkAll {H : Type} : List (DataW H) → Nat
  | [] => 0
  | d :: r => uptoBulk d + uptoBulkAll r
def uptoBulkEntries {H : Type} : List (Lit × DataW H) → Nat
  | [] => 0
  | x :: r => uptoBulkEntry x + uptoBulkEntries r
def uptoBulkEntry {H : Type} : Lit × DataW H → Nat
  | (.string bytes, d) => bytes.length + uptoBulk d + 1
  | (_, d) => uptoBulk d + 1
 end
def uptoSmall : (H : Type) → List (DataW H) → Bool := fun _ ds => decide (uptoBulkAll ds ≤ 1048576)
def OpenSpec.upto (s : _root_.Go.ChangeSpec) : _root_.Go.OpenSpec := { _root_.Go.OpenSpec.ofChange s with cond := some uptoSmall }

/-- 'vireolaw27.SaveWrites', WHERE WHAT IT READS IS OF BULK AT MOST 1048576: true; the input reads as it did. -/
def saveWritesUptoRow : OpenClaim := { program := "ytafngdeeachggaagreat", sum := "a60366ef286918113cf856ae973434c038900d69208c88109857177300aa13bf", func := "vireo/vireolaw27.SaveWrites", spec := "saveWrites", unfollowed := true, recurses := true, apart := false, narrowed := true }
def SaveWritesUptoSaid : Prop := saveWritesUptoRow.holds Tryz.pinned (OpenSpec.upto saveWritesSpec)

/-- 'vireolaw27.SaveBack', WHERE WHAT IT READS IS OF BULK AT MOST 1048576: true; the input reads as it did. -/
def saveBackUptoRow : OpenClaim := { program := "ytafngdeeachggaagreat", sum := "a60366ef286918113cf856ae973434c038900d69208c88109857177300aa13bf", func := "vireo/vireolaw27.SaveBack", spec := "saveBack", unfollowed := true, recurses := true, apart := false, narrowed := true }
def SaveBackUptoSaid : Prop := saveBackUptoRow.holds Tryz.pinned (OpenSpec.upto saveBackSpec)

/-- 'vireolaw27.SaveParses', WHERE WHAT IT READS IS OF BULK AT MOST 1048576: true; the input reads as it did. -/
def saveParsesUptoRow : OpenClaim := { program := "ytafngdeeachggaagreat", sum := "a60366ef286918113cf856ae973434c038900d69208c88109857177300aa13bf", func := "vireo/vireolaw27.SaveParses", spec := "saveParses", unfollowed := true, recurses := true, apart := false, narrowed := true }
def SaveParsesUptoSaid : Prop := saveParsesUptoRow.holds Tryz.pinned (OpenSpec.upto saveParsesSpec)

/-- 'vireolaw30.TraceRooms', WHERE WHAT IT READS IS OF BULK AT MOST 1048576: true; the input reads as it did. -/
def traceRoomsUptoRow : OpenClaim := { program := "ytafngdeeachggaagreat", sum := "a60366ef286918113cf856ae973434c038900d69208c88109857177300aa13bf", func := "vireo/vireolaw30.TraceRooms", spec := "traceRooms", inPlace := ["internal/abi.NoEscape", "internal/bytealg.MakeNoZero"], unfollowed := true, recurses := true, apart := false, narrowed := true }
def TraceRoomsUptoSaid : Prop := traceRoomsUptoRow.holds Tryz.pinned (OpenSpec.upto traceRoomsSpec)

/-- 'vireolaw29.GdbHex', WHERE WHAT IT READS IS OF BULK AT MOST 1048576: true; the input reads as it did. -/
def gdbHexUptoRow : OpenClaim := { program := "ytafngdeeachggaagreat", sum := "a60366ef286918113cf856ae973434c038900d69208c88109857177300aa13bf", func := "vireo/vireolaw29.GdbHex", spec := "gdbHex", inPlace := ["internal/bytealg.IndexByteString", "internal/bytealg.IndexString"], unfollowed := true, recurses := true, named := ["internal/bytealg.MaxLen"], apart := false, narrowed := true }
def GdbHexUptoSaid : Prop := gdbHexUptoRow.holds Tryz.pinned (OpenSpec.upto gdbHexSpec)

/-- 'vireolaw29.GdbBack', WHERE WHAT IT READS IS OF BULK AT MOST 1048576: true; the input reads as it did. -/
def gdbBackUptoRow : OpenClaim := { program := "ytafngdeeachggaagreat", sum := "a60366ef286918113cf856ae973434c038900d69208c88109857177300aa13bf", func := "vireo/vireolaw29.GdbBack", spec := "gdbBack", inPlace := ["internal/bytealg.IndexByteString", "internal/bytealg.IndexString"], unfollowed := true, recurses := true, named := ["internal/bytealg.MaxLen"], apart := false, narrowed := true }
def GdbBackUptoSaid : Prop := gdbBackUptoRow.holds Tryz.pinned (OpenSpec.upto gdbBackSpec)

/-- 'vireolaw29.GdbFrames', WHERE WHAT IT READS IS OF BULK AT MOST 1048576: true; the input reads as it did. -/
def gdbFramesUptoRow : OpenClaim := { program := "ytafngdeeachggaagreat", sum := "a60366ef286918113cf856ae973434c038900d69208c88109857177300aa13bf", func := "vireo/vireolaw29.GdbFrames", spec := "gdbFrames", inPlace := ["internal/bytealg.IndexByteString", "internal/bytealg.IndexString"], unfollowed := true, recurses := true, named := ["internal/bytealg.MaxLen"], apart := false, narrowed := true }
def GdbFramesUptoSaid : Prop := gdbFramesUptoRow.holds Tryz.pinned (OpenSpec.upto gdbFramesSpec)

end Rows
end Go.Proofs.YtafngdeeachggaaGreat
