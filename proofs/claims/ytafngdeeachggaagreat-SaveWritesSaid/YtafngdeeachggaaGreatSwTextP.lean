/- save.text, save.flag, vireoref27.text do what is said. -/
import Derived.Test.YtafngdeeachggaaGreatSwTextV
import Derived.Test.YtafngdeeachggaaGreatSwRecP
set_option linter.unusedVariables false
set_option linter.unusedSimpArgs false
namespace Sw
set_option maxRecDepth 100000
open Go Go.Proofs Vx

theorem flag_ok : conFlag.Vc body41 := by
  rw [flag_vc]
  intro x _
  refine ⟨fun hb => ⟨1, ?_, rfl, Sub.refl _, trivial⟩, fun hb => ⟨0, ?_, rfl, Sub.refl _, trivial⟩⟩
  · show (1 : Int) = cond x.b 1 0
    rw [hb]; rfl
  · show (0 : Int) = cond x.b 1 0
    rw [hb]; rfl
theorem iter_ways (n : Nat) (b : Nat) : LoopOk Tryz.prog ((fun _ bx => iter bx n) b) := iter_ok _ n
theorem spec41 : SpecOk Tryz.prog 41 conFlag.spec :=
  Con.sound (body_ok (fun f => noSpec_ok _ f) (iter_ways 0) (fun vs w => Tryz.call41 vs w)) flag_ok

theorem textB_len (d : List Int) : (textB d).length ≤ d.length + 10 := by
  unfold textB
  have := numB_len 10 d.length
  simp only [List.length_append]; omega
theorem textG_ok : conTextG.Vc body42 := by
  rw [textG_vc]
  intro x hx r hr
  obtain ⟨h1, h2, h3⟩ := (hx : TextPre x)
  have e : r = (x.l : Int) := by rw [hr, wu64]; omega
  refine ⟨⟨x.xs, x.vs, r, x.G⟩, rfl, rfl, rfl, rfl, rfl, rfl, rfl, Sub.refl _, ⟨?_, ?_, ?_⟩, fun y hy => ⟨x.d, h3.len, h3.at_, ?_, fun _ => ⟨?_, fun _ => ⟨rfl, fun _ => ⟨?_, fun _ => ⟨?_, fun _ c vs hc hvs _ => ?_⟩⟩⟩⟩⟩⟩
  · simp only []; omega
  · simp only []; omega
  · simp only []; omega
  all_goals
    have hy : y.xs = x.xs ++ numB 10 r.toNat := hy
    have hlen : y.xs.length ≤ 1000010 := by
      have := numB_len 10 r.toNat
      rw [hy]; simp only [List.length_append]; omega
  · omega
  · omega
  · omega
  · omega
  · have hl := h3.len
    refine ⟨⟨y.xs ++ x.d, vs⟩, ?_, by simp [hl], by simp [hl]; omega, rfl, by simp [hl], rfl, hvs, Sub.refl _, trivial⟩
    show y.xs ++ x.d = x.xs ++ textB x.d
    rw [hy, e]
    unfold textB
    rw [hl]; simp
theorem specTextG : SpecOk Tryz.prog 42 conTextG.spec := by
  refine Con.sound (body_ok (fun f => ?_) (iter_ways 0) (fun vs w => Tryz.call42 vs w)) textG_ok
  unfold call42
  cases hb : Nat.beq f 40
  · exact noSpec_ok _ f
  · have := beq_t hb
    subst this
    exact spec40
theorem textS_ok : conTextS.Vc body42 := by
  rw [textS_vc]
  intro x hx r hr
  obtain ⟨h1, h2⟩ := (hx : TextPreS x)
  have e : r = (x.d.length : Int) := by rw [hr, wu64]; omega
  refine ⟨⟨x.xs, x.vs, r, x.G⟩, rfl, rfl, rfl, rfl, rfl, rfl, rfl, Sub.refl _, ⟨?_, ?_, ?_⟩, fun y hy => ⟨by omega, fun _ ys hys => ⟨?_, fun _ => ⟨?_, fun _ => ⟨rfl, fun _ => ⟨?_, fun _ => ⟨?_, fun _ c vs hc hvs _ => ?_⟩⟩⟩⟩⟩⟩⟩
  · simp only []; omega
  · simp only []; omega
  · simp only []; omega
  all_goals
    have hy : y.xs = x.xs ++ numB 10 r.toNat := hy
    have hlen : y.xs.length ≤ 1000010 := by
      have := numB_len 10 r.toNat
      rw [hy]; simp only [List.length_append]; omega
  · omega
  · omega
  · omega
  · omega
  · have hys : ys = x.d := by rw [hys, List.drop_zero, List.take_length]
    subst hys
    refine ⟨⟨y.xs ++ x.d, vs⟩, ?_, by simp, by simp; omega, rfl, by simp, rfl, hvs, Sub.refl _, trivial⟩
    show y.xs ++ x.d = x.xs ++ textB x.d
    rw [hy, e]
    unfold textB
    simp
theorem specTextS : SpecOk Tryz.prog 42 conTextS.spec := by
  refine Con.sound (body_ok (fun f => ?_) (iter_ways 0) (fun vs w => Tryz.call42 vs w)) textS_ok
  unfold call42
  cases hb : Nat.beq f 40
  · exact noSpec_ok _ f
  · have := beq_t hb
    subst this
    exact spec40

theorem refG_ok : conTextG.Vc body46 := by
  rw [refG_vc]
  intro x hx r hr
  obtain ⟨h1, h2, h3⟩ := (hx : TextPre x)
  have e : r = (x.l : Int) := by rw [hr, wu64]; omega
  have hn := numB_len 10 r.toNat
  refine ⟨⟨x.xs, x.vs, r, x.G⟩, rfl, rfl, rfl, rfl, rfl, rfl, rfl, Sub.refl _, ⟨?_, ?_, ?_, ?_⟩, fun y hy => ⟨x.d, h3.len, h3.at_, ?_, fun _ => ⟨?_, fun _ => ⟨rfl, fun _ => ⟨?_, fun _ => ⟨?_, fun _ c vs hc hvs _ => ?_⟩⟩⟩⟩⟩⟩
  · simp only []; omega
  · simp only []; omega
  · simp only []; omega
  · show r < ((18446744073709551616 : Nat) : Int)
    omega
  all_goals
    have hy : y.xs = x.xs ++ numB 10 r.toNat := hy
    have hlen : y.xs.length ≤ 1000010 := by
      rw [hy]; simp only [List.length_append]; omega
  · omega
  · omega
  · omega
  · omega
  · have hl := h3.len
    refine ⟨⟨y.xs ++ x.d, vs⟩, ?_, by simp [hl], by simp [hl]; omega, rfl, by simp [hl], rfl, hvs, Sub.refl _, trivial⟩
    show y.xs ++ x.d = x.xs ++ textB x.d
    rw [hy, e]
    unfold textB
    rw [hl]; simp
theorem specRefG : SpecOk Tryz.prog 46 conTextG.spec := by
  refine Con.sound (body_ok (fun f => ?_) (iter_ways 0) (fun vs w => Tryz.call46 vs w)) refG_ok
  unfold call46
  cases hb : Nat.beq f 45
  · exact noSpec_ok _ f
  · have := beq_t hb
    subst this
    exact spec45 refK
theorem refS_ok : conTextS.Vc body46 := by
  rw [refS_vc]
  intro x hx r hr
  obtain ⟨h1, h2⟩ := (hx : TextPreS x)
  have e : r = (x.d.length : Int) := by rw [hr, wu64]; omega
  have hn := numB_len 10 r.toNat
  refine ⟨⟨x.xs, x.vs, r, x.G⟩, rfl, rfl, rfl, rfl, rfl, rfl, rfl, Sub.refl _, ⟨?_, ?_, ?_, ?_⟩, fun y hy => ⟨by omega, fun _ ys hys => ⟨?_, fun _ => ⟨?_, fun _ => ⟨rfl, fun _ => ⟨?_, fun _ => ⟨?_, fun _ c vs hc hvs _ => ?_⟩⟩⟩⟩⟩⟩⟩
  · simp only []; omega
  · simp only []; omega
  · simp only []; omega
  · show r < ((18446744073709551616 : Nat) : Int)
    omega
  all_goals
    have hy : y.xs = x.xs ++ numB 10 r.toNat := hy
    have hlen : y.xs.length ≤ 1000010 := by
      rw [hy]; simp only [List.length_append]; omega
  · omega
  · omega
  · omega
  · omega
  · have hys : ys = x.d := by rw [hys, List.drop_zero, List.take_length]
    subst hys
    refine ⟨⟨y.xs ++ x.d, vs⟩, ?_, by simp, by simp; omega, rfl, by simp, rfl, hvs, Sub.refl _, trivial⟩
    show y.xs ++ x.d = x.xs ++ textB x.d
    rw [hy, e]
    unfold textB
    simp
theorem specRefS : SpecOk Tryz.prog 46 conTextS.spec := by
  refine Con.sound (body_ok (fun f => ?_) (iter_ways 0) (fun vs w => Tryz.call46 vs w)) refS_ok
  unfold call46
  cases hb : Nat.beq f 45
  · exact noSpec_ok _ f
  · have := beq_t hb
    subst this
    exact spec45 refK
end Sw
