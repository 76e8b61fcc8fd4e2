/- The statement SaveWrites holds, as its given row says it: for any record that is handed in, the call comes to true and changes none of what was handed in. No condition is added. -/
import Derived.Test.YtafngdeeachggaaGreatSwRow
import Derived.Test.YtafngdeeachggaaGreatRwSaveWrites
import Derived.Test.YtafngdeeachggaaGreatRows
import Derived.ProofKit
import Derived.OpenShut
import Derived.ShutString
import Derived.ChangeOld
import Derived.Below
set_option linter.unusedVariables false
set_option linter.unusedSimpArgs false
namespace Sw
set_option maxRecDepth 100000
open Go Go.Proofs Vx
open Go.ChangeShapes Go.WideShapes Go.ChangeAt Go.RowKit
open Go.Proofs.YtafngdeeachggaaGreat

theorem sat0 (W : World) : Sat ⟨fun _ => none, W⟩ [] ⟨0, [], [], heapG W⟩ W :=
  ⟨rfl, ⟨rfl, rfl, rfl⟩, fun b o h => h.elim (fun h => (by cases h)) (fun h => h), fun id o h => (by cases h), fun id o id' o' h => (by cases h), fun e he => (by cases he), fun _ _ _ => rfl⟩
theorem below_of {W W' : World} {β : List Nat} {hp : Hp} (h : Sat ⟨fun _ => none, W⟩ β hp W') (hG : hp.G = heapG W) : Below W.heap.size W W' := by
  have hb : ∀ k o, W.heap[k]? = some o → W'.heap[k]? = some o := fun k o hk => h.ext k o (.inr (by rw [hG]; exact hk))
  refine ⟨h.outer.2.1, h.outer.1, h.outer.2.2, ?_, fun k hk => ?_⟩
  · rcases Nat.eq_zero_or_pos W.heap.size with h0 | h0
    · omega
    · have := hb (W.heap.size - 1) _ (Array.getElem?_eq_getElem (by omega))
      have := (Array.getElem?_eq_some_iff.1 this).1
      omega
  · rw [Array.getElem?_eq_getElem hk]
    exact hb k _ (Array.getElem?_eq_getElem hk)
theorem walk (r : RecX) (W : World) (hr : RecOk r) (hG : r.G = heapG W) :
    Calls Tryz.prog 3 #[.agg ((recRow r).vals []).toArray] W fun e W' => e = .returned (.bool true) ∧ Below W.heap.size W W' := by
  have h := (spec3 [.agg (recRow r)] ⟨0, [], [], heapG W⟩ (fun v hp' => v = .bool (.v true) ∧ hp'.G = heapG W) ?_).2 ⟨fun _ => none, W⟩ [] W (sat0 W) ?_
  · refine h.mono ?_
    rintro e W' ⟨v, rfl, γ, sv, hp', k1, k2, k3, rfl, rfl, k5⟩
    exact ⟨rfl, below_of k1 k5⟩
  · refine ⟨r, ?_⟩
    have hone : (SV.agg (recRow r)).one = true := rfl
    simp only [mState, conLaw, mArgs, hone, cond_true]
    simp [recRow, mV, eqI, eqB, eqM, mHeap, injB, allN, hG, hr, heapOf, renH, goneH, fpOf, SV.ren]
    exact Sub.refl _
  · intro x hx
    obtain rfl := List.mem_singleton.1 hx
    exact ⟨rfl, by simp [recRow, SV.wf]⟩

theorem own : ownKnob Tryz.prog.godebug = none := by kernel_rfl
theorem laidOut : laidOutB Tryz.prog = true := by kernel_rfl
theorem lifted (os : Os) (started : os.Started) (H : Type) (enc : TypeId × Value → H) :
    ReturnsInHanded {} Tryz.checked os 3 .any (Rows.saveWritesSpec.pre6 enc Tryz.prog Tryz.f3 Rows.saveWritesRow.domain false) (Rows.saveWritesSpec.post enc Tryz.prog Tryz.f3 false true false false) := by
  refine returnsInHanded_of_change (C := Tryz.checked) own started (by kernel_rfl) Tryz.func3
    (ChangeSpec.witness6 (enc := enc) (C := Tryz.checked) false ⟨#[], #[.agg #[.int .u64 0, .int .u64 0, .bool false, .slice none 0 0, .slice none 0 0, .string .empty, .slice none 0 0]], []⟩ 8 (by kernel_rfl) (by kernel_rfl) (by kernel_rfl) (by kernel_rfl)) ?_
  intro W base args ds gs before hval0 hW hcnd _
  have hval : ∀ (j : Nat) t v, Tryz.f3.params[j]? = some t → args[j]? = some v → Value.okWide Tryz.prog W .any base t v := hval0
  have hW' := hW
  obtain ⟨p, q, hA0, hV, rfl, hfz, hnd⟩ := hW
  have hA : DataW.TrodAll enc Tryz.prog W 0 (fun _ => true) true Tryz.f3.params.toList args.toList ds p := hA0
  rw [Tryz.params3] at hA hval
  obtain ⟨v0, vs0, d0, ds0, p0, q0, hargs, rfl, rfl, h0, r0⟩ := trodAll_cons hA
  obtain ⟨rfl, rfl, rfl⟩ := trodAll_nil r0
  obtain rfl : args = #[v0] := by cases args; simp_all
  obtain ⟨rfl, rfl⟩ := trodVars_none hV
  obtain ⟨cs, rfl, hsz⟩ := okWide_struct Tryz.underlying28 (hval 0 28 v0 rfl rfl)
  have k0 := h0
  have lt0 : ∀ x ∈ p0, x.block < W.heap.size := by obtain ⟨m, hm⟩ := k0; exact DataW.trod_lt m _ _ _ hm
  obtain ⟨r, hG, hr, hcs⟩ : ∃ r : RecX, r.G = heapG W ∧ RecOk r ∧ cs = ((recRow r).vals []).toArray := by
    obtain ⟨fuel, hf⟩ := h0
    obtain ⟨r, h1, h2, h3⟩ := rec_of (x := (d0, p0)) hf
    exact ⟨r, h1, h2, by rw [← h3]; simp [Value.cells]⟩
  clear hA0 hval0
  rw [hcs]
  rw [hcs] at k0 hW'
  refine (walk r W hr hG).mono fun e W' ⟨he, bel⟩ => ?_
  subst he
  exact ⟨_, rfl, _, _, _, [], _, [], hW', trodAll_mk1 (shut_bool Tryz.underlying4 _), (trodAll_cons_mk (Below.trod laidOut (by kernel_rfl) (of_decide_eq_true (by kernel_rfl)) k0 bel lt0) trodAll_mk0), rfl, bel.frame _, fun h => by cases h⟩

theorem over : Rows.saveWritesRow.holds Tryz.pinned (OpenSpec.ofChange Rows.saveWritesSpec) :=
  OpenClaim.holds_of_wide 3 Tryz.f3 rfl rfl rfl rfl rfl rfl rfl ⟨rfl, rfl, rfl, rfl, rfl⟩ rfl rfl rfl rfl rfl RwSaveWrites.named Tryz.func3 RwSaveWrites.joined
    (of_decide_eq_true (by kernel_rfl)) (by unfold Func.isWrapper; first | (rw [if_pos (by decide +kernel)]; kernel_rfl) | (rw [if_neg (by decide +kernel)]; exact ⟨rfl, rfl⟩))
    (fun os started H enc _ => lifted os started H enc)
theorem saveWrites_holds : Rows.SaveWritesSaid := over
end Sw
namespace Go.Proofs.YtafngdeeachggaaGreat
theorem saveWrites_proved : Rows.SaveWritesSaid := Sw.saveWrites_holds
end Go.Proofs.YtafngdeeachggaaGreat
