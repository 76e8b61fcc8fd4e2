/- What the row of gdbHex asks of the program's tables, one by one: reckoned by the kernel. No condition. -/
import Derived.Test.YtafngdeeachggaaGreatRows
import Derived.Test.YtafngdeeachggaaGreatProg
import Derived.ProofKit
import Derived.KernelRfl
import Derived.JoinedOf
import Derived.Test.YtafngdeeachggaaGreatHex12
set_option linter.unusedVariables false
set_option linter.unusedSimpArgs false
section
namespace RwGdbHex
set_option maxRecDepth 100000
open Go Go.Proofs
open Go.Proofs.YtafngdeeachggaaGreat

open RwProg
theorem inPl : (Rows.gdbHexRow.inPlace == Tryz.pinned.checked.prog.inPlace 7) = true := by kernel_rfl
theorem unf : (Rows.gdbHexRow.unfollowed == Tryz.pinned.checked.prog.unfollowed 7) = true := by kernel_rfl
theorem rec_ : (Rows.gdbHexRow.recurses == Tryz.pinned.checked.prog.recurses 7) = true := by kernel_rfl
theorem nam : (Rows.gdbHexRow.named == Tryz.pinned.checked.prog.varsNamed 7) = true := by kernel_rfl
theorem pk : (Rows.gdbHexRow.plainKeys == Tryz.pinned.checked.prog.plainKeys) = true := by kernel_rfl
theorem lif : (Rows.gdbHexRow.lifted == Tryz.pinned.checked.prog.liftsFinal) = true := by kernel_rfl
theorem mak : (Tryz.pinned.checked.prog.make == some Rows.gdbHexRow.make) = true := by kernel_rfl
theorem joined : joinedFacts Tryz.pinned.checked.prog 7 Tryz.f7 Rows.gdbHexSpec Rows.gdbHexRow = true := by
  unfold joinedFacts
  exact and_ (and_ (and_ (and_ (and_ (and_ (and_ (and_ (and_ (and_ (and_ (and_ (and_ (and_ (and_ (and_ (and_ (and_ (and_ (and_ (and_ (and_ (and_ (and_ (and_ (and_ (and_ (and_ (and_ (and_ (and_ (by kernel_rfl) laid) mapsR) (by kernel_rfl)) (by kernel_rfl)) (by kernel_rfl)) stops) (by kernel_rfl)) stopKnobs) inPl) unf) rec_) nam) (by kernel_rfl)) (by kernel_rfl)) (by kernel_rfl)) (by kernel_rfl)) (by kernel_rfl)) (by kernel_rfl)) (by kernel_rfl)) (by kernel_rfl)) (by kernel_rfl)) pk) (by kernel_rfl)) heard) mayEnter) lif) mak) (by kernel_rfl)) (by kernel_rfl)) (by kernel_rfl)) (by kernel_rfl)
theorem named : Tryz.pinned.checked.prog.funcNamed Rows.gdbHexRow.func = some 7 := by kernel_rfl
end RwGdbHex
end
