/- What the row of gdbFrames asks of the program's tables, one by one: reckoned by the kernel. No condition. -/
import Derived.Test.YtafngdeeachggaaGreatRows
import Derived.Test.YtafngdeeachggaaGreatProg
import Derived.ProofKit
import Derived.KernelRfl
import Derived.JoinedOf
import Derived.Test.YtafngdeeachggaaGreatFrames12
set_option linter.unusedVariables false
set_option linter.unusedSimpArgs false
section
namespace RwGdbFrames
set_option maxRecDepth 100000
open Go Go.Proofs
open Go.Proofs.YtafngdeeachggaaGreat

open RwProg
theorem inPl : (Rows.gdbFramesRow.inPlace == Tryz.pinned.checked.prog.inPlace 9) = true := by kernel_rfl
theorem unf : (Rows.gdbFramesRow.unfollowed == Tryz.pinned.checked.prog.unfollowed 9) = true := by kernel_rfl
theorem rec_ : (Rows.gdbFramesRow.recurses == Tryz.pinned.checked.prog.recurses 9) = true := by kernel_rfl
theorem nam : (Rows.gdbFramesRow.named == Tryz.pinned.checked.prog.varsNamed 9) = true := by kernel_rfl
theorem pk : (Rows.gdbFramesRow.plainKeys == Tryz.pinned.checked.prog.plainKeys) = true := by kernel_rfl
theorem lif : (Rows.gdbFramesRow.lifted == Tryz.pinned.checked.prog.liftsFinal) = true := by kernel_rfl
theorem mak : (Tryz.pinned.checked.prog.make == some Rows.gdbFramesRow.make) = true := by kernel_rfl
theorem joined : joinedFacts Tryz.pinned.checked.prog 9 Tryz.f9 Rows.gdbFramesSpec Rows.gdbFramesRow = true := by
  unfold joinedFacts
  exact and_ (and_ (and_ (and_ (and_ (and_ (and_ (and_ (and_ (and_ (and_ (and_ (and_ (and_ (and_ (and_ (and_ (and_ (and_ (and_ (and_ (and_ (and_ (and_ (and_ (and_ (and_ (and_ (and_ (and_ (and_ (by kernel_rfl) laid) mapsR) (by kernel_rfl)) (by kernel_rfl)) (by kernel_rfl)) stops) (by kernel_rfl)) stopKnobs) inPl) unf) rec_) nam) (by kernel_rfl)) (by kernel_rfl)) (by kernel_rfl)) (by kernel_rfl)) (by kernel_rfl)) (by kernel_rfl)) (by kernel_rfl)) (by kernel_rfl)) (by kernel_rfl)) pk) (by kernel_rfl)) heard) mayEnter) lif) mak) (by kernel_rfl)) (by kernel_rfl)) (by kernel_rfl)) (by kernel_rfl)
theorem named : Tryz.pinned.checked.prog.funcNamed Rows.gdbFramesRow.func = some 9 := by kernel_rfl
end RwGdbFrames
end
