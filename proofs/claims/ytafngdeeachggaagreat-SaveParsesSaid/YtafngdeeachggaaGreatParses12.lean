/- The statement SaveParses holds, as its given row says it: for any bytes that are handed in, the call comes to true and changes none of them. No condition is added. -/
import Derived.Test.YtafngdeeachggaaGreatRows
import Derived.Test.YtafngdeeachggaaGreatParses01
import Derived.Test.YtafngdeeachggaaGreatParses02
import Derived.Test.YtafngdeeachggaaGreatParses03
import Derived.Test.YtafngdeeachggaaGreatParses04
import Derived.Test.YtafngdeeachggaaGreatParses05
import Derived.Test.YtafngdeeachggaaGreatParses06
import Derived.Test.YtafngdeeachggaaGreatParses07
import Derived.Test.YtafngdeeachggaaGreatParses08
import Derived.Test.YtafngdeeachggaaGreatParses09
import Derived.Test.YtafngdeeachggaaGreatParses10
import Derived.Test.YtafngdeeachggaaGreatParses11
set_option linter.unusedVariables false
set_option linter.unusedSimpArgs false
section
namespace Sw
set_option maxRecDepth 100000
open Go Go.Proofs Vx
open Go.ChangeShapes Go.WideShapes Go.ChangeAt Go.RowKit
open Go.Proofs.YtafngdeeachggaaGreat

theorem walk5 (p : Option Addr) (l c : Nat) (d : List Int) (W : World) (hb : Bs (worldG W) p l c d) (hl : l < 9223372036854775808) :
    Calls Tryz.prog 5 #[.slice p l c] W fun e W' => e = .returned (.bool true) ∧ Below W.heap.size W W' := by
  refine law_walk spec5 [.gsl p (.v l) (.v c)] W ?_ ?_
  · intro x hx
    obtain rfl := List.mem_singleton.1 hx
    exact ⟨rfl, trivial⟩
  · refine ⟨⟨p, l, c, d, worldG W⟩, ?_⟩
    have hone : (SV.gsl p (.v l) (.v c)).one = true := rfl
    simp only [mState, conParses, mArgs, hone, cond_true]
    simp [mV, eqM, mHeap, injB, allN, heapOf, renH, goneH, fpOf, SV.ren, hl]
    exact ⟨Sub.refl _, hb⟩
theorem laidOut5 : laidOutB Tryz.prog = true := RwProg.laid
theorem lifted5 (os : Os) (started : os.Started) (H : Type) (enc : TypeId × Value → H) :
    ReturnsInHanded {} Tryz.checked os 5 .any (Rows.saveParsesSpec.pre6 enc Tryz.prog Tryz.f5 Rows.saveParsesRow.domain false) (Rows.saveParsesSpec.post enc Tryz.prog Tryz.f5 false true false false) := by
  refine returnsInHanded_of_change (C := Tryz.checked) RwProg.own started (by kernel_rfl) Tryz.func5
    (ChangeSpec.witness6 (enc := enc) (C := Tryz.checked) false ⟨#[], #[.slice none 0 0], []⟩ 8 (by kernel_rfl) (by kernel_rfl) (by kernel_rfl) (by kernel_rfl)) ?_
  intro W base args ds gs before hval0 hW hcnd _
  have hval : ∀ (j : Nat) t v, Tryz.f5.params[j]? = some t → args[j]? = some v → Value.okWide Tryz.prog W .any base t v := hval0
  have hW' := hW
  obtain ⟨p, q, hA0, hV, rfl, hfz, hnd⟩ := hW
  have hA : DataW.TrodAll enc Tryz.prog W 0 (fun _ => true) true Tryz.f5.params.toList args.toList ds p := hA0
  rw [Tryz.params5] at hA hval
  obtain ⟨v0, vs0, d0, ds0, p0, q0, hargs, rfl, rfl, h0, r0⟩ := trodAll_cons hA
  obtain ⟨rfl, rfl, rfl⟩ := trodAll_nil r0
  obtain rfl : args = #[v0] := by cases args; simp_all
  obtain ⟨rfl, rfl⟩ := trodVars_none hV
  obtain ⟨a, len, cap, rfl⟩ := okWide_slice Tryz.underlying23 (hval 0 23 v0 rfl rfl)
  have k0 := h0
  have lt0 : ∀ x ∈ p0, x.block < W.heap.size := by obtain ⟨m, hm⟩ := k0; exact DataW.trod_lt m _ _ _ hm
  obtain ⟨d, hb, hc⟩ : ∃ d, Bs (worldG W) a len cap d ∧ cap ≤ maxLen := by
    obtain ⟨fuel, hf⟩ := h0
    obtain ⟨p, l, c, d, h1, h2, h3⟩ := bs_of (x := (d0, p0)) Tryz.underlying23 Tryz.underlying5 c5 hf
    have h1 : [Value.slice a len cap] = [.slice p l c] := by rw [← h1]; simp [Value.cells]
    cases h1
    exact ⟨d, h2, h3⟩
  have hl : len < 9223372036854775808 := by
    have := hb.cap
    have : maxLen = 9223372036854775807 := by decide
    omega
  clear hA0 hval0
  refine (walk5 a len cap d W hb hl).mono fun e W' ⟨he, bel⟩ => ?_
  subst he
  exact ⟨_, rfl, _, _, _, [], _, [], hW', trodAll_mk1 (shut_bool Tryz.underlying4 _), (trodAll_cons_mk (Below.trod laidOut5 (by kernel_rfl) (of_decide_eq_true (by kernel_rfl)) k0 bel lt0) trodAll_mk0), rfl, bel.frame _, fun h => by cases h⟩
theorem over5 : Rows.saveParsesRow.holds Tryz.pinned (OpenSpec.ofChange Rows.saveParsesSpec) :=
  OpenClaim.holds_of_wide 5 Tryz.f5 rfl rfl rfl rfl rfl rfl rfl ⟨rfl, rfl, rfl, rfl, rfl⟩ rfl rfl rfl rfl rfl RwSaveParses.named Tryz.func5 RwSaveParses.joined
    (of_decide_eq_true (by kernel_rfl)) (by unfold Func.isWrapper; first | (rw [if_pos (by decide +kernel)]; kernel_rfl) | (rw [if_neg (by decide +kernel)]; exact ⟨rfl, rfl⟩))
    (fun os started H enc _ => lifted5 os started H enc)
end Sw
namespace Go.Proofs.YtafngdeeachggaaGreat
theorem saveParses_proved : Rows.SaveParsesSaid := Sw.over5
end Go.Proofs.YtafngdeeachggaaGreat
end
