/- The statement GdbHex holds, as its given row says it: for any bytes and any text that are handed in, the call comes to true and changes none of what was handed in. No condition is added. -/
import Derived.Test.YtafngdeeachggaaGreatRows
import Derived.Test.YtafngdeeachggaaGreatHex01
import Derived.Test.YtafngdeeachggaaGreatHex02
import Derived.Test.YtafngdeeachggaaGreatHex03
import Derived.Test.YtafngdeeachggaaGreatHex04
import Derived.Test.YtafngdeeachggaaGreatHex05
import Derived.Test.YtafngdeeachggaaGreatHex06
import Derived.Test.YtafngdeeachggaaGreatHex07
import Derived.Test.YtafngdeeachggaaGreatHex08
import Derived.Test.YtafngdeeachggaaGreatHex09
import Derived.Test.YtafngdeeachggaaGreatHex10
import Derived.Test.YtafngdeeachggaaGreatHex11
import Derived.Test.YtafngdeeachggaaGreatHex12
import Derived.Test.YtafngdeeachggaaGreatHex13
set_option linter.unusedVariables false
set_option linter.unusedSimpArgs false
section
namespace Sw
set_option maxRecDepth 100000
open Go Go.Proofs Vx
open Go.ChangeShapes Go.WideShapes Go.ChangeAt Go.RowKit
open Go.Proofs.YtafngdeeachggaaGreat

theorem walk7 (p : Option Addr) (l c : Nat) (d : List Int) (s : ByteArray) (W : World) (hb : Bs (worldG W) p l c d) (hl : l < 9223372036854775808) (hs : s.size < 9223372036854775808) :
    Calls Tryz.prog 7 #[.slice p l c, .string s] W fun e W' => e = .returned (.bool true) ∧ Below W.heap.size W W' := by
  refine law_walk spec7 [.gsl p (.v l) (.v c), .str (.v s)] W ?_ ?_
  · intro x hx
    simp only [List.mem_cons, List.not_mem_nil, or_false] at hx
    rcases hx with rfl | rfl <;> exact ⟨rfl, trivial⟩
  · refine ⟨⟨p, l, c, d, s, worldG W⟩, ?_⟩
    have hone : (SV.gsl p (.v l) (.v c)).one = true := rfl
    have hone2 : (SV.str (.v s)).one = true := rfl
    simp only [mState, conLaw7, mArgs, hone, hone2, cond_true]
    simp [mV, eqM, mHeap, injB, allN, heapOf, renH, goneH, fpOf, SV.ren, hl, hs]
    exact ⟨Sub.refl _, hb⟩
theorem laidOut7 : laidOutB Tryz.prog = true := RwProg.laid
theorem lifted7 (os : Os) (started : os.Started) (H : Type) (enc : TypeId × Value → H) :
    ReturnsInHanded {} Tryz.checked os 7 .any (Rows.gdbHexSpec.pre6 enc Tryz.prog Tryz.f7 Rows.gdbHexRow.domain false) (Rows.gdbHexSpec.post enc Tryz.prog Tryz.f7 false true false false) := by
  refine returnsInHanded_of_change (C := Tryz.checked) RwProg.own started (by kernel_rfl) Tryz.func7
    (ChangeSpec.witness6 (enc := enc) (C := Tryz.checked) false ⟨#[], #[.slice none 0 0, .string .empty], []⟩ 8 (by kernel_rfl) (by kernel_rfl) (by kernel_rfl) (by kernel_rfl)) ?_
  intro W base args ds gs before hval0 hW hcnd _
  have hval : ∀ (j : Nat) t v, Tryz.f7.params[j]? = some t → args[j]? = some v → Value.okWide Tryz.prog W .any base t v := hval0
  have hW' := hW
  obtain ⟨p, q, hA0, hV, rfl, hfz, hnd⟩ := hW
  have hA : DataW.TrodAll enc Tryz.prog W 0 (fun _ => true) true Tryz.f7.params.toList args.toList ds p := hA0
  rw [Tryz.params7] at hA hval
  obtain ⟨v0, vs0, d0, ds0, p0, q0, hargs, rfl, rfl, h0, r0⟩ := trodAll_cons hA
  obtain ⟨v1, vs1, d1, ds1, p1, q1, hargs1, rfl, rfl, h1, r1⟩ := trodAll_cons r0
  obtain ⟨rfl, rfl, rfl⟩ := trodAll_nil r1
  obtain rfl : args = #[v0, v1] := by cases args; simp_all
  obtain ⟨rfl, rfl⟩ := trodVars_none hV
  obtain ⟨a, len, cap, rfl⟩ := okWide_slice Tryz.underlying23 (hval 0 23 v0 rfl rfl)
  obtain ⟨s, rfl⟩ := okWide_string Tryz.underlying9 (hval 1 9 v1 rfl rfl)
  have k0 := h0
  have k1 := h1
  have lt0 : ∀ x ∈ p0, x.block < W.heap.size := by obtain ⟨m, hm⟩ := k0; exact DataW.trod_lt m _ _ _ hm
  have lt1 : ∀ x ∈ p1, x.block < W.heap.size := by obtain ⟨m, hm⟩ := k1; exact DataW.trod_lt m _ _ _ hm
  have hmax : maxLen = 9223372036854775807 := by decide
  obtain ⟨d, hb, hc⟩ : ∃ d, Bs (worldG W) a len cap d ∧ cap ≤ maxLen := by
    obtain ⟨fuel, hf⟩ := h0
    obtain ⟨p, l, c, d, g1, g2, g3⟩ := bs_of (x := (d0, p0)) Tryz.underlying23 Tryz.underlying5 c5 hf
    have g1 : [Value.slice a len cap] = [.slice p l c] := by rw [← g1]; simp [Value.cells]
    cases g1
    exact ⟨d, g2, g3⟩
  have hl : len < 9223372036854775808 := by
    have := hb.cap
    omega
  have hs : s.size < 9223372036854775808 := by
    obtain ⟨fuel, hf⟩ := h1
    obtain ⟨t, g1, g2⟩ := tr_string (x := (d1, p1)) Tryz.underlying9 hf
    have g1 : [Value.string s] = [.string t] := by rw [← g1]; simp [Value.cells]
    cases g1
    omega
  clear hA0 hval0
  refine (walk7 a len cap d s W hb hl hs).mono fun e W' ⟨he, bel⟩ => ?_
  subst he
  exact ⟨_, rfl, _, _, _, [], _, [], hW', trodAll_mk1 (shut_bool Tryz.underlying4 _), (trodAll_cons_mk (Below.trod laidOut7 (by kernel_rfl) (of_decide_eq_true (by kernel_rfl)) k0 bel lt0) (trodAll_cons_mk (Below.trod laidOut7 (by kernel_rfl) (of_decide_eq_true (by kernel_rfl)) k1 bel lt1) trodAll_mk0)), rfl, bel.frame _, fun h => by cases h⟩
theorem over7 : Rows.gdbHexRow.holds Tryz.pinned (OpenSpec.ofChange Rows.gdbHexSpec) :=
  OpenClaim.holds_of_wide 7 Tryz.f7 rfl rfl rfl rfl rfl rfl rfl ⟨rfl, rfl, rfl, rfl, rfl⟩ rfl rfl rfl rfl rfl RwGdbHex.named Tryz.func7 RwGdbHex.joined
    (of_decide_eq_true (by kernel_rfl)) (by unfold Func.isWrapper; first | (rw [if_pos (by decide +kernel)]; kernel_rfl) | (rw [if_neg (by decide +kernel)]; exact ⟨rfl, rfl⟩))
    (fun os started H enc _ => lifted7 os started H enc)
end Sw
namespace Go.Proofs.YtafngdeeachggaaGreat
theorem gdbHex_proved : Rows.GdbHexSaid := Sw.over7
end Go.Proofs.YtafngdeeachggaaGreat
end
