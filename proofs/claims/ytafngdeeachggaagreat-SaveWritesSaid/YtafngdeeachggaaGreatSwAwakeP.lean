/- vireolaw27.awake answers true. -/
import Derived.Test.YtafngdeeachggaaGreatSwAwakeV
set_option linter.unusedVariables false
set_option linter.unusedSimpArgs false
namespace Sw
set_option maxRecDepth 100000
open Go Go.Proofs Vx

theorem awake_ok : conAwake.Vc body10 := by
  rw [awake_vc]
  intros
  exact ⟨(), trivial, Sub.refl _, trivial⟩
theorem inl27_ok (f : Nat) (h : inl27 f = true) (vs : Array Value) (w : World) : (callFunc f vs).run Tryz.prog w = .ok (.enter f vs) w := by
  have h : f ∈ awakeFs := by simpa [inl27] using h
  simp only [awakeFs, List.mem_cons, List.not_mem_nil, or_false] at h
  rcases h with rfl | rfl | rfl | rfl | rfl | rfl | rfl | rfl | rfl | rfl | rfl | rfl | rfl | rfl | rfl | rfl | rfl | rfl | rfl | rfl | rfl | rfl | rfl | rfl | rfl | rfl | rfl | rfl | rfl | rfl | rfl | rfl | rfl
  · exact Tryz.call10 vs w
  · exact Tryz.call20 vs w
  · exact Tryz.call36 vs w
  · exact Tryz.call37 vs w
  · exact Tryz.call38 vs w
  · exact Tryz.call39 vs w
  · exact Tryz.call43 vs w
  · exact Tryz.call55 vs w
  · exact Tryz.call56 vs w
  · exact Tryz.call57 vs w
  · exact Tryz.call58 vs w
  · exact Tryz.call59 vs w
  · exact Tryz.call60 vs w
  · exact Tryz.call75 vs w
  · exact Tryz.call76 vs w
  · exact Tryz.call79 vs w
  · exact Tryz.call81 vs w
  · exact Tryz.call82 vs w
  · exact Tryz.call83 vs w
  · exact Tryz.call84 vs w
  · exact Tryz.call85 vs w
  · exact Tryz.call86 vs w
  · exact Tryz.call87 vs w
  · exact Tryz.call88 vs w
  · exact Tryz.call106 vs w
  · exact Tryz.call107 vs w
  · exact Tryz.call108 vs w
  · exact Tryz.call109 vs w
  · exact Tryz.call113 vs w
  · exact Tryz.call114 vs w
  · exact Tryz.call115 vs w
  · exact Tryz.call116 vs w
  · exact Tryz.call117 vs w
theorem spec10 : SpecOk Tryz.prog 10 conAwake.spec :=
  Con.sound (callD_ok c0_ok (fun f => noSpec_ok _ f) (fun _ => ⟨fun _ => iter_ok _ 5000, fun _ => PieceOk.id _⟩) inl27_ok 60 10) awake_ok
end Sw
