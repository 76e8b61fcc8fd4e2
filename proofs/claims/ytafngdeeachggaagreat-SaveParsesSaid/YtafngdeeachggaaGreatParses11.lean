/- What the row of saveParses asks of the program's tables, one by one: reckoned by the kernel. No condition. -/
import Derived.Test.YtafngdeeachggaaGreatRows
import Derived.Test.YtafngdeeachggaaGreatProg
import Derived.ProofKit
import Derived.KernelRfl
import Derived.JoinedOf
import Derived.Test.YtafngdeeachggaaGreatParses10
set_option linter.unusedVariables false
set_option linter.unusedSimpArgs false
section
namespace RwSaveParses
set_option maxRecDepth 100000
open Go Go.Proofs
open Go.Proofs.YtafngdeeachggaaGreat

open RwProg
theorem inPl : (Rows.saveParsesRow.inPlace == Tryz.pinned.checked.prog.inPlace 5) = true := by kernel_rfl
theorem unf : (Rows.saveParsesRow.unfollowed == Tryz.pinned.checked.prog.unfollowed 5) = true := by kernel_rfl
theorem rec_ : (Rows.saveParsesRow.recurses == Tryz.pinned.checked.prog.recurses 5) = true := by kernel_rfl
theorem nam : (Rows.saveParsesRow.named == Tryz.pinned.checked.prog.varsNamed 5) = true := by kernel_rfl
theorem pk : (Rows.saveParsesRow.plainKeys == Tryz.pinned.checked.prog.plainKeys) = true := by kernel_rfl
theorem lif : (Rows.saveParsesRow.lifted == Tryz.pinned.checked.prog.liftsFinal) = true := by kernel_rfl
theorem mak : (Tryz.pinned.checked.prog.make == some Rows.saveParsesRow.make) = true := by kernel_rfl
theorem joined : joinedFacts Tryz.pinned.checked.prog 5 Tryz.f5 Rows.saveParsesSpec Rows.saveParsesRow = true := by
  unfold joinedFacts
  exact and_ (and_ (and_ (and_ (and_ (and_ (and_ (and_ (and_ (and_ (and_ (and_ (and_ (and_ (and_ (and_ (and_ (and_ (and_ (and_ (and_ (and_ (and_ (and_ (and_ (and_ (and_ (and_ (and_ (and_ (and_ (by kernel_rfl) laid) mapsR) (by kernel_rfl)) (by kernel_rfl)) (by kernel_rfl)) stops) (by kernel_rfl)) stopKnobs) inPl) unf) rec_) nam) (by kernel_rfl)) (by kernel_rfl)) (by kernel_rfl)) (by kernel_rfl)) (by kernel_rfl)) (by kernel_rfl)) (by kernel_rfl)) (by kernel_rfl)) (by kernel_rfl)) pk) (by kernel_rfl)) heard) mayEnter) lif) mak) (by kernel_rfl)) (by kernel_rfl)) (by kernel_rfl)) (by kernel_rfl)
theorem named : Tryz.pinned.checked.prog.funcNamed Rows.saveParsesRow.func = some 5 := by kernel_rfl
end RwSaveParses
end
