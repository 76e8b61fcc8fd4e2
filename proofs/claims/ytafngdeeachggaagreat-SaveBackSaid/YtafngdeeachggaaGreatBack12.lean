/- The statement SaveBack holds, as its given row says it: for any record that is handed in, the call comes to true and changes none of what was handed in. No condition is added. -/
import Derived.Test.YtafngdeeachggaaGreatRows
import Derived.Test.YtafngdeeachggaaGreatBack01
import Derived.Test.YtafngdeeachggaaGreatBack02
import Derived.Test.YtafngdeeachggaaGreatBack03
import Derived.Test.YtafngdeeachggaaGreatBack04
import Derived.Test.YtafngdeeachggaaGreatBack05
import Derived.Test.YtafngdeeachggaaGreatBack06
import Derived.Test.YtafngdeeachggaaGreatBack07
import Derived.Test.YtafngdeeachggaaGreatBack08
import Derived.Test.YtafngdeeachggaaGreatBack09
import Derived.Test.YtafngdeeachggaaGreatBack10
import Derived.Test.YtafngdeeachggaaGreatBack11
set_option linter.unusedVariables false
set_option linter.unusedSimpArgs false
section
namespace Sw
set_option maxRecDepth 100000
open Go Go.Proofs Vx
open Go.ChangeShapes Go.WideShapes Go.ChangeAt Go.RowKit
open Go.Proofs.YtafngdeeachggaaGreat

theorem walk4 (r : RecX) (W : World) (hr : RecOk r) (hG : r.G = heapG W) :
    Calls Tryz.prog 4 #[.agg ((recRow r).vals []).toArray] W fun e W' => e = .returned (.bool true) ∧ Below W.heap.size W W' := by
  refine law_walk spec4 [.agg (recRow r)] W ?_ ?_
  · intro x hx
    obtain rfl := List.mem_singleton.1 hx
    exact ⟨rfl, by simp [recRow, SV.wf]⟩
  · refine ⟨r, ?_⟩
    have hone : (SV.agg (recRow r)).one = true := rfl
    simp only [mState, conBack, mArgs, hone, cond_true]
    simp [recRow, mV, eqI, eqB, eqM, mHeap, injB, allN, hG, hr, heapOf, renH, goneH, fpOf, SV.ren]
    exact ⟨Sub.refl _, fun _ h => h⟩
theorem laidOut4 : laidOutB Tryz.prog = true := RwProg.laid
theorem lifted4 (os : Os) (started : os.Started) (H : Type) (enc : TypeId × Value → H) :
    ReturnsInHanded {} Tryz.checked os 4 .any (Rows.saveBackSpec.pre6 enc Tryz.prog Tryz.f4 Rows.saveBackRow.domain false) (Rows.saveBackSpec.post enc Tryz.prog Tryz.f4 false true false false) := by
  refine returnsInHanded_of_change (C := Tryz.checked) RwProg.own started (by kernel_rfl) Tryz.func4
    (ChangeSpec.witness6 (enc := enc) (C := Tryz.checked) false ⟨#[], #[.agg #[.int .u64 0, .int .u64 0, .bool false, .slice none 0 0, .slice none 0 0, .string .empty, .slice none 0 0]], []⟩ 8 (by kernel_rfl) (by kernel_rfl) (by kernel_rfl) (by kernel_rfl)) ?_
  intro W base args ds gs before hval0 hW hcnd _
  have hval : ∀ (j : Nat) t v, Tryz.f4.params[j]? = some t → args[j]? = some v → Value.okWide Tryz.prog W .any base t v := hval0
  have hW' := hW
  obtain ⟨p, q, hA0, hV, rfl, hfz, hnd⟩ := hW
  have hA : DataW.TrodAll enc Tryz.prog W 0 (fun _ => true) true Tryz.f4.params.toList args.toList ds p := hA0
  rw [Tryz.params4] at hA hval
  obtain ⟨v0, vs0, d0, ds0, p0, q0, hargs, rfl, rfl, h0, r0⟩ := trodAll_cons hA
  obtain ⟨rfl, rfl, rfl⟩ := trodAll_nil r0
  obtain rfl : args = #[v0] := by cases args; simp_all
  obtain ⟨rfl, rfl⟩ := trodVars_none hV
  obtain ⟨cs, rfl, hsz⟩ := okWide_struct Tryz.underlying28 (hval 0 28 v0 rfl rfl)
  have k0 := h0
  have lt0 : ∀ x ∈ p0, x.block < W.heap.size := by obtain ⟨m, hm⟩ := k0; exact DataW.trod_lt m _ _ _ hm
  obtain ⟨r, hG, hr, hcs⟩ : ∃ r : RecX, r.G = heapG W ∧ RecOk r ∧ cs = ((recRow r).vals []).toArray := by
    obtain ⟨fuel, hf⟩ := h0
    obtain ⟨r, h1, h2, h3⟩ := rec_of (x := (d0, p0)) hf
    exact ⟨r, h1, h2, by rw [← h3]; simp [Value.cells]⟩
  clear hA0 hval0
  rw [hcs]
  rw [hcs] at k0 hW'
  refine (walk4 r W hr hG).mono fun e W' ⟨he, bel⟩ => ?_
  subst he
  exact ⟨_, rfl, _, _, _, [], _, [], hW', trodAll_mk1 (shut_bool Tryz.underlying4 _), (trodAll_cons_mk (Below.trod laidOut4 (by kernel_rfl) (of_decide_eq_true (by kernel_rfl)) k0 bel lt0) trodAll_mk0), rfl, bel.frame _, fun h => by cases h⟩
theorem over4 : Rows.saveBackRow.holds Tryz.pinned (OpenSpec.ofChange Rows.saveBackSpec) :=
  OpenClaim.holds_of_wide 4 Tryz.f4 rfl rfl rfl rfl rfl rfl rfl ⟨rfl, rfl, rfl, rfl, rfl⟩ rfl rfl rfl rfl rfl RwSaveBack.named Tryz.func4 RwSaveBack.joined
    (of_decide_eq_true (by kernel_rfl)) (by unfold Func.isWrapper; first | (rw [if_pos (by decide +kernel)]; kernel_rfl) | (rw [if_neg (by decide +kernel)]; exact ⟨rfl, rfl⟩))
    (fun os started H enc _ => lifted4 os started H enc)
end Sw
namespace Go.Proofs.YtafngdeeachggaaGreat
theorem saveBack_proved : Rows.SaveBackSaid := Sw.over4
end Go.Proofs.YtafngdeeachggaaGreat
end
