/- vireolaw27.SaveWrites answers true. -/
import Derived.Test.YtafngdeeachggaaGreatSwLawV
import Derived.Test.YtafngdeeachggaaGreatSwMath
import Derived.Test.YtafngdeeachggaaGreatSwAwakeP
set_option linter.unusedVariables false
set_option linter.unusedSimpArgs false
namespace Sw
set_option maxRecDepth 100000
open Go Go.Proofs Vx

theorem law_ok : conLaw.Vc body3 := by
  rw [law_vc]
  intro x hx
  have hx : RecOk x := hx
  refine ⟨⟨x.G⟩, Sub.refl _, trivial, fun _ _ => ⟨x, rfl, rfl, rfl, rfl, rfl, rfl, rfl, rfl, rfl, rfl, rfl, rfl, rfl, Sub.refl _, hx, fun y hy => ⟨fun _ => ⟨(), trivial, rfl, Sub.refl _, trivial⟩, fun hb => ?_⟩⟩⟩
  have hy : y = true → Few x := hy
  have hfew := hy (by simpa using hb)
  refine ⟨x, rfl, rfl, rfl, rfl, rfl, rfl, rfl, rfl, rfl, rfl, rfl, rfl, rfl, Sub.refl _, hx, fun z hz => ⟨fun _ => ⟨(), trivial, rfl, Sub.refl _, trivial⟩, fun hb => ?_⟩⟩
  have hz : z = true → ∀ e ∈ x.evs, IsByte e.k := hz
  have hp : BytesPre x := ⟨hx, small_of_few hx hfew, hz (by simpa using hb)⟩
  refine ⟨x, rfl, rfl, rfl, rfl, rfl, rfl, rfl, rfl, rfl, rfl, rfl, rfl, rfl, Sub.refl _, hp, fun a ha => ⟨rfl, rfl, rfl, rfl, rfl, rfl, rfl, rfl, rfl, rfl, rfl, rfl, rfl, ?_⟩⟩
  have ha : a.xs = recB x ++ word4 (sumB (recB x)) := ha
  refine ⟨x, rfl, rfl, rfl, rfl, rfl, rfl, rfl, rfl, rfl, rfl, rfl, rfl, rfl, Sub.refl _, hp, fun b hb => ?_⟩
  have hb : b.xs = recB x ++ ref4 (checkB (recB x)) := hb
  have hl := recB_len hp
  refine ⟨⟨a.xs, a.vs, b.xs, b.vs, x.G⟩, rfl, rfl, rfl, rfl, rfl, rfl, rfl, rfl, rfl, rfl, rfl, rfl, Sub.refl _, ?_, fun y hy => ⟨(), trivial, ?_, Sub.refl _, trivial⟩⟩
  · show a.xs.length ≤ 1000000100
    rw [ha]; simp only [List.length_append, word4, List.length_cons, List.length_nil]; omega
  · have hy : y = decide (a.xs = b.xs) := hy
    obtain ⟨h1, h2⟩ := sum_eq (recB_byte hx)
    rw [hy, ha, hb, h1, word_eq h2]
    simp
theorem call3_ok (f : Nat) : SpecOk Tryz.prog f (call3 f) := by
  unfold call3
  cases h1 : Nat.beq f 10
  · cases h2 : Nat.beq f 11
    · cases h3 : Nat.beq f 12
      · cases h4 : Nat.beq f 14
        · cases h5 : Nat.beq f 16
          · cases h6 : Nat.beq f 15
            · cases h7 : Nat.beq f 13
              · exact noSpec_ok _ f
              · have := beq_t h7
                subst this
                exact spec13
            · have := beq_t h6
              subst this
              exact spec15
          · have := beq_t h5
            subst this
            exact body_ok (fun f => noSpec_ok _ f) (iter_ways 0) (fun vs w => Tryz.call16 vs w)
        · have := beq_t h4
          subst this
          exact spec14
      · have := beq_t h3
        subst this
        exact spec12
    · have := beq_t h2
      subst this
      exact spec11
  · have := beq_t h1
    subst this
    exact spec10
theorem spec3 : SpecOk Tryz.prog 3 conLaw.spec :=
  Con.sound (body_ok call3_ok (iter_ways 0) (fun vs w => Tryz.call3 vs w)) law_ok
end Sw
