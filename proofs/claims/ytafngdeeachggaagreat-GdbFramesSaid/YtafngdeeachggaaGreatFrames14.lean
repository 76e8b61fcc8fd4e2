/- The statement GdbFrames holds, as its given row says it: for any three texts that are handed in, the call comes to true and changes none of them. No condition is added. -/
import Derived.Test.YtafngdeeachggaaGreatRows
import Derived.Test.YtafngdeeachggaaGreatFrames01
import Derived.Test.YtafngdeeachggaaGreatFrames02
import Derived.Test.YtafngdeeachggaaGreatFrames03
import Derived.Test.YtafngdeeachggaaGreatFrames04
import Derived.Test.YtafngdeeachggaaGreatFrames05
import Derived.Test.YtafngdeeachggaaGreatFrames06
import Derived.Test.YtafngdeeachggaaGreatFrames07
import Derived.Test.YtafngdeeachggaaGreatFrames08
import Derived.Test.YtafngdeeachggaaGreatFrames09
import Derived.Test.YtafngdeeachggaaGreatFrames10
import Derived.Test.YtafngdeeachggaaGreatFrames11
import Derived.Test.YtafngdeeachggaaGreatFrames12
import Derived.Test.YtafngdeeachggaaGreatFrames13
set_option linter.unusedVariables false
set_option linter.unusedSimpArgs false
section
namespace Sw
set_option maxRecDepth 100000
open Go Go.Proofs Vx
open Go.ChangeShapes Go.WideShapes Go.ChangeAt Go.RowKit
open Go.Proofs.YtafngdeeachggaaGreat

theorem walk9 (s0 : ByteArray) (s1 : ByteArray) (s2 : ByteArray) (W : World) (hs0 : s0.size < 9223372036854775808) (hs1 : s1.size < 9223372036854775808) (hs2 : s2.size < 9223372036854775808) :
    Calls Tryz.prog 9 #[.string s0, .string s1, .string s2] W fun e W' => e = .returned (.bool true) ∧ Below W.heap.size W W' := by
  refine law_walk spec9 [.str (.v s0), .str (.v s1), .str (.v s2)] W ?_ ?_
  · intro x hx
    simp only [List.mem_cons, List.not_mem_nil, or_false] at hx
    rcases hx with rfl | rfl | rfl <;> exact ⟨rfl, trivial⟩
  · refine ⟨⟨s0, s1, s2, worldG W⟩, ?_⟩
    have hone0 : (SV.str (.v s0)).one = true := rfl
    have hone1 : (SV.str (.v s1)).one = true := rfl
    have hone2 : (SV.str (.v s2)).one = true := rfl
    simp only [mState, conLaw9, mArgs, hone0, hone1, hone2, cond_true]
    simp [mV, eqM, eqI, eqB, mHeap, injB, allN, heapOf, renH, goneH, fpOf, SV.ren, hs0, hs1, hs2, Law9Pre]
    exact Sub.refl _
theorem lifted9 (os : Os) (started : os.Started) (H : Type) (enc : TypeId × Value → H) :
    ReturnsInHanded {} Tryz.checked os 9 .any (Rows.gdbFramesSpec.pre6 enc Tryz.prog Tryz.f9 Rows.gdbFramesRow.domain false) (Rows.gdbFramesSpec.post enc Tryz.prog Tryz.f9 false true false false) := by
  refine returnsInHanded_of_change (C := Tryz.checked) RwProg.own started (by kernel_rfl) Tryz.func9
    (ChangeSpec.witness6 (enc := enc) (C := Tryz.checked) false ⟨#[], #[.string .empty, .string .empty, .string .empty], []⟩ 8 (by kernel_rfl) (by kernel_rfl) (by kernel_rfl) (by kernel_rfl)) ?_
  intro W base args ds gs before hval0 hW hcnd _
  have hval : ∀ (j : Nat) t v, Tryz.f9.params[j]? = some t → args[j]? = some v → Value.okWide Tryz.prog W .any base t v := hval0
  have hW' := hW
  obtain ⟨p, q, hA0, hV, rfl, hfz, hnd⟩ := hW
  have hA : DataW.TrodAll enc Tryz.prog W 0 (fun _ => true) true Tryz.f9.params.toList args.toList ds p := hA0
  rw [Tryz.params9] at hA hval
  obtain ⟨v0, vs0, d0, ds0, p0, q0, hargs0, rfl, rfl, h0, r0⟩ := trodAll_cons hA
  obtain ⟨v1, vs1, d1, ds1, p1, q1, hargs1, rfl, rfl, h1, r1⟩ := trodAll_cons r0
  obtain ⟨v2, vs2, d2, ds2, p2, q2, hargs2, rfl, rfl, h2, r2⟩ := trodAll_cons r1
  obtain ⟨rfl, rfl, rfl⟩ := trodAll_nil r2
  obtain rfl : args = #[v0, v1, v2] := by cases args; simp_all
  obtain ⟨rfl, rfl⟩ := trodVars_none hV
  have hmax : maxLen = 9223372036854775807 := by decide
  obtain ⟨s0, rfl⟩ := okWide_string Tryz.underlying9 (hval 0 9 v0 rfl rfl)
  have k0 := h0
  have lt0 : ∀ x ∈ p0, x.block < W.heap.size := by obtain ⟨m, hm⟩ := k0; exact DataW.trod_lt m _ _ _ hm
  obtain ⟨s1, rfl⟩ := okWide_string Tryz.underlying9 (hval 1 9 v1 rfl rfl)
  have k1 := h1
  have lt1 : ∀ x ∈ p1, x.block < W.heap.size := by obtain ⟨m, hm⟩ := k1; exact DataW.trod_lt m _ _ _ hm
  obtain ⟨s2, rfl⟩ := okWide_string Tryz.underlying9 (hval 2 9 v2 rfl rfl)
  have k2 := h2
  have lt2 : ∀ x ∈ p2, x.block < W.heap.size := by obtain ⟨m, hm⟩ := k2; exact DataW.trod_lt m _ _ _ hm
  have hs0 : s0.size < 9223372036854775808 := by
    obtain ⟨fuel, hf⟩ := h0
    obtain ⟨t, g1, g2⟩ := tr_string (x := (d0, p0)) Tryz.underlying9 hf
    have g1 : [Value.string s0] = [.string t] := by rw [← g1]; simp [Value.cells]
    cases g1
    omega
  have hs1 : s1.size < 9223372036854775808 := by
    obtain ⟨fuel, hf⟩ := h1
    obtain ⟨t, g1, g2⟩ := tr_string (x := (d1, p1)) Tryz.underlying9 hf
    have g1 : [Value.string s1] = [.string t] := by rw [← g1]; simp [Value.cells]
    cases g1
    omega
  have hs2 : s2.size < 9223372036854775808 := by
    obtain ⟨fuel, hf⟩ := h2
    obtain ⟨t, g1, g2⟩ := tr_string (x := (d2, p2)) Tryz.underlying9 hf
    have g1 : [Value.string s2] = [.string t] := by rw [← g1]; simp [Value.cells]
    cases g1
    omega
  clear hA0 hval0
  refine (walk9 s0 s1 s2 W hs0 hs1 hs2).mono fun e W' ⟨he, bel⟩ => ?_
  subst he
  exact ⟨_, rfl, _, _, _, [], _, [], hW', trodAll_mk1 (shut_bool Tryz.underlying4 _), (trodAll_cons_mk (Below.trod RwProg.laid (by kernel_rfl) (of_decide_eq_true (by kernel_rfl)) k0 bel lt0) (trodAll_cons_mk (Below.trod RwProg.laid (by kernel_rfl) (of_decide_eq_true (by kernel_rfl)) k1 bel lt1) (trodAll_cons_mk (Below.trod RwProg.laid (by kernel_rfl) (of_decide_eq_true (by kernel_rfl)) k2 bel lt2) trodAll_mk0))), rfl, bel.frame _, fun h => by cases h⟩
theorem over9 : Rows.gdbFramesRow.holds Tryz.pinned (OpenSpec.ofChange Rows.gdbFramesSpec) :=
  OpenClaim.holds_of_wide 9 Tryz.f9 rfl rfl rfl rfl rfl rfl rfl ⟨rfl, rfl, rfl, rfl, rfl⟩ rfl rfl rfl rfl rfl RwGdbFrames.named Tryz.func9 RwGdbFrames.joined
    (of_decide_eq_true (by kernel_rfl)) (by unfold Func.isWrapper; first | (rw [if_pos (by decide +kernel)]; kernel_rfl) | (rw [if_neg (by decide +kernel)]; exact ⟨rfl, rfl⟩))
    (fun os started H enc _ => lifted9 os started H enc)
end Sw
namespace Go.Proofs.YtafngdeeachggaaGreat
theorem gdbFrames_proved : Rows.GdbFramesSaid := Sw.over9
end Go.Proofs.YtafngdeeachggaaGreat
end
