/- save.Bytes does what is said. -/
import Derived.Test.YtafngdeeachggaaGreatSwBytesV
import Derived.Test.YtafngdeeachggaaGreatSwTextP
set_option linter.unusedVariables false
set_option linter.unusedSimpArgs false
namespace Sw
set_option maxRecDepth 100000
open Go Go.Proofs Vx

theorem evsB_len : ∀ l : List Ev, (∀ e ∈ l, e.d.length ≤ 200) → (evsB l).length ≤ 300 * l.length
  | [], _ => Nat.le_refl _
  | e :: r, h => by
    have h1 := evsB_len r fun x hx => h x (List.mem_cons_of_mem _ hx)
    have h2 := h e List.mem_cons_self
    have h3 := numB_len 10 (IntKind.u64.wrap e.k).toNat
    have h4 := numB_len 10 e.a.toNat
    have h5 := textB_len e.d
    simp only [evsB, evB, List.length_append, List.length_cons]
    omega
theorem evsB_drop {l : List Ev} {i : Nat} {e : Ev} (h : l[i]? = some e) : evsB (l.drop i) = evB e ++ evsB (l.drop (i + 1)) := by
  obtain ⟨hi, rfl⟩ := List.getElem?_eq_some_iff.1 h
  rw [List.drop_eq_getElem_cons hi]
  rfl
theorem bytesOf_len (b : ByteArray) : (bytesOf b).length = b.size := bytesOf_length b
theorem headB_len {x : RecX} (hx : BytesPre x) : (headB x).length ≤ 10000 := by
  obtain ⟨ho, ⟨f1, f2, f3, f4, f5, f6⟩, _⟩ := hx
  have h1 := numB_len 10 x.ram.toNat
  have h2 := numB_len 10 x.sec.toNat
  have h3 := numB_len 10 (cond x.locked 1 0)
  have h4 := textB_len x.dd
  have h5 := textB_len x.id
  have h6 := textB_len (bytesOf x.name)
  have h7 := numB_len 10 x.el
  have h8 := ho.disk.len
  have h9 := ho.image.len
  have h10 := bytesOf_len x.name
  simp only [headB, List.length_append, List.length_cons, List.length_nil]
  omega
theorem recB_len {x : RecX} (hx : BytesPre x) : (recB x).length ≤ 20000 := hx.2.1.2.2.2.2.2
theorem small_of_few {x : RecX} (ho : RecOk x) (hf : Few x) : Small x := by
  obtain ⟨f1, f2, f3, f4, f5⟩ := hf
  have h2 := evsB_len x.evs fun e he => by
    have h3 := (ho.evs e he).d.len
    have h4 := f5 e he
    omega
  have h3 := ho.evLen
  refine ⟨f1, f2, by omega, by omega, fun e he => by have := f5 e he; omega, ?_⟩
  have h1 := numB_len 10 x.ram.toNat
  have h2 := numB_len 10 x.sec.toNat
  have h3 := numB_len 10 (cond x.locked 1 0)
  have h4 := textB_len x.dd
  have h5 := textB_len x.id
  have h6 := textB_len (bytesOf x.name)
  have h7 := numB_len 10 x.el
  have h8 := ho.disk.len
  have h9 := ho.image.len
  have h10 := bytesOf_len x.name
  simp only [recB, headB, List.length_append, List.length_cons, List.length_nil]
  omega

theorem bytes_ok : conBytes.Vc body14 := by
  rw [bytes_vc]
  intro x hx
  have hx : BytesPre x := hx
  have hB := recB_len hx
  have hH := headB_len hx
  obtain ⟨ho, ⟨f1, f2, f3, f4, f5, f6⟩, hk⟩ := id hx
  have hdl := ho.disk.len
  have hil := ho.image.len
  have hbl := bytesOf_len x.name
  have q1 := numB_len 10 x.ram.toNat
  have q2 := numB_len 10 x.sec.toNat
  have q3 := textB_len x.dd
  have q4 := textB_len x.id
  have q5 := textB_len (bytesOf x.name)
  intro c vs h1 h2 _
  refine ⟨by omega, fun _ => ⟨by omega, fun _ => ?_⟩⟩
  intro c vs h1 h2 _
  refine ⟨by omega, fun _ => ⟨by omega, fun _ => ?_⟩⟩
  intro c vs h1 h2 _
  refine ⟨by omega, fun _ => ⟨by omega, fun _ => ?_⟩⟩
  intro c vs h1 h2 _
  refine ⟨by omega, fun _ => ⟨by omega, fun _ => ?_⟩⟩
  intro c vs h1 h2 _
  refine ⟨by omega, fun _ => ⟨by omega, fun _ => ?_⟩⟩
  intro c vs h1 h2 _
  refine ⟨⟨[246, 210, 201, 171, 246, 13], vs, x.ram, x.G⟩, rfl, by simp; omega, rfl, rfl, rfl, rfl, h2, Sub.refl _, ⟨ho.ram.1, ho.ram.2, by simp⟩, fun y1 hy1 => ⟨rfl, rfl, ?_⟩⟩
  have hy1 : y1.xs = [246, 210, 201, 171, 246, 13] ++ numB 10 x.ram.toNat := hy1
  have l1 : y1.xs.length ≤ 16 := by rw [hy1]; simp only [List.length_append, List.length_cons, List.length_nil]; omega
  refine ⟨⟨y1.xs, y1.vs, x.sec, x.G⟩, rfl, rfl, rfl, rfl, rfl, rfl, rfl, Sub.refl _, ⟨ho.sec.1, ho.sec.2, by simp only []; omega⟩, fun y2 hy2 => ⟨rfl, ⟨x.locked, x.G⟩, rfl, Sub.refl _, trivial, fun v hv => ?_⟩⟩
  have hy2 : y2.xs = y1.xs ++ numB 10 x.sec.toNat := hy2
  have l2 : y2.xs.length ≤ 26 := by rw [hy2]; simp only [List.length_append]; omega
  have hv : v = cond x.locked 1 0 := hv
  have hv2 : 0 ≤ v ∧ v < 2 ∧ v.toNat = cond x.locked 1 0 := by rw [hv]; cases x.locked <;> decide
  have q6 := numB_len 10 v.toNat
  refine ⟨⟨y2.xs, y2.vs, v, x.G⟩, rfl, rfl, rfl, rfl, rfl, rfl, rfl, Sub.refl _, ⟨by simp only []; omega, by simp only []; omega, by simp only []; omega⟩, fun y3 hy3 => ?_⟩
  have hy3 : y3.xs = y2.xs ++ numB 10 v.toNat := hy3
  have l3 : y3.xs.length ≤ 36 := by rw [hy3]; simp only [List.length_append]; omega
  refine ⟨⟨x, y3.xs, y3.vs⟩, rfl, rfl, rfl, rfl, rfl, rfl, rfl, rfl, rfl, rfl, rfl, rfl, rfl, rfl, rfl, rfl, rfl, rfl, rfl, Sub.refl _, ⟨hx, by simp only []; omega⟩, fun d => ?_, fun y4 hy4 d r hr => ?_⟩
  · -- the three texts, in all orders
    have t1 : TextPre ⟨y3.xs, y3.vs, x.dp, x.dl, x.dc, x.dd, x.G⟩ := ⟨by simp only []; omega, by simp only []; omega, ho.disk⟩
    refine ⟨⟨⟨y3.xs, y3.vs, x.dp, x.dl, x.dc, x.dd, x.G⟩, rfl, rfl, rfl, rfl, rfl, rfl, rfl, rfl, rfl, Sub.refl _, t1, fun z1 hz1 => ⟨rfl, rfl, rfl, rfl, ?_, fun c vs h1 h2 _ => ⟨rfl, rfl, rfl, ?_⟩⟩⟩, fun c vs h1 h2 _ => ⟨rfl, rfl, rfl, rfl, rfl, rfl, ?_⟩⟩
    · have hz1 : z1.xs = y3.xs ++ textB x.dd := hz1
      have m1 : z1.xs.length ≤ 4000 := by rw [hz1]; simp only [List.length_append]; omega
      refine ⟨⟨z1.xs, z1.vs, x.ip, x.il, x.ic, x.id, x.G⟩, rfl, rfl, rfl, rfl, rfl, rfl, rfl, rfl, rfl, Sub.refl _, ⟨by simp only []; omega, by simp only []; omega, ho.image⟩, fun z2 hz2 => ⟨rfl, fun c vs h1 h2 _ => ?_⟩⟩
      have hz2 : z2.xs = z1.xs ++ textB x.id := hz2
      have m2 : z2.xs.length ≤ 8000 := by rw [hz2]; simp only [List.length_append]; omega
      have h1 : x.name.size ≤ c := h1
      have h2 : vs.length = c - x.name.size := h2
      refine ⟨⟨z2.xs, z2.vs, bytesOf x.name, vs, x.G⟩, rfl, rfl, hbl, by simp only []; omega, rfl, rfl, rfl, rfl, rfl, hbl, rfl, h2, Sub.refl _, ⟨by simp only []; omega, by simp only []; omega⟩, fun z3 hz3 => ⟨z3, ?_, rfl, rfl, rfl, rfl, rfl, rfl, rfl, rfl, rfl, rfl, rfl, rfl, rfl, rfl, rfl, rfl, rfl, rfl, rfl, Sub.refl _, trivial⟩⟩
      have hz3 : z3.xs = z2.xs ++ textB (bytesOf x.name) := hz3
      show z3.xs = y3.xs ++ (textB x.dd ++ (textB x.id ++ textB (bytesOf x.name)))
      rw [hz3, hz2, hz1]; simp
    · have hz1 : z1.xs = y3.xs ++ textB x.dd := hz1
      have m1 : z1.xs.length ≤ 4000 := by rw [hz1]; simp only [List.length_append]; omega
      refine ⟨⟨z1.xs, z1.vs, x.ip, x.il, x.ic, x.id, x.G⟩, rfl, rfl, rfl, rfl, rfl, rfl, rfl, rfl, rfl, Sub.refl _, ⟨by simp only []; omega, by simp only []; omega, ho.image⟩, fun z2 hz2 => ?_⟩
      have hz2 : z2.xs = z1.xs ++ textB x.id := hz2
      have m2 : z2.xs.length ≤ 8000 := by rw [hz2]; simp only [List.length_append]; omega
      have h1 : x.name.size ≤ c := h1
      have h2 : vs.length = c - x.name.size := h2
      refine ⟨⟨z2.xs, z2.vs, bytesOf x.name, vs, x.G⟩, rfl, rfl, hbl, by simp only []; omega, rfl, rfl, rfl, rfl, rfl, hbl, rfl, h2, Sub.refl _, ⟨by simp only []; omega, by simp only []; omega⟩, fun z3 hz3 => ⟨z3, ?_, rfl, rfl, rfl, rfl, rfl, rfl, rfl, rfl, rfl, rfl, rfl, rfl, rfl, rfl, rfl, rfl, rfl, rfl, rfl, Sub.refl _, trivial⟩⟩
      have hz3 : z3.xs = z2.xs ++ textB (bytesOf x.name) := hz3
      show z3.xs = y3.xs ++ (textB x.dd ++ (textB x.id ++ textB (bytesOf x.name)))
      rw [hz3, hz2, hz1]; simp
    · refine ⟨⟨y3.xs, y3.vs, x.dp, x.dl, x.dc, x.dd, x.G⟩, rfl, rfl, rfl, rfl, rfl, rfl, rfl, rfl, rfl, Sub.refl _, t1, fun z1 hz1 => ⟨rfl, rfl, rfl, ?_⟩⟩
      have hz1 : z1.xs = y3.xs ++ textB x.dd := hz1
      have m1 : z1.xs.length ≤ 4000 := by rw [hz1]; simp only [List.length_append]; omega
      refine ⟨⟨z1.xs, z1.vs, x.ip, x.il, x.ic, x.id, x.G⟩, rfl, rfl, rfl, rfl, rfl, rfl, rfl, rfl, rfl, Sub.refl _, ⟨by simp only []; omega, by simp only []; omega, ho.image⟩, fun z2 hz2 => ?_⟩
      have hz2 : z2.xs = z1.xs ++ textB x.id := hz2
      have m2 : z2.xs.length ≤ 8000 := by rw [hz2]; simp only [List.length_append]; omega
      have h1 : x.name.size ≤ c := h1
      have h2 : vs.length = c - x.name.size := h2
      refine ⟨⟨z2.xs, z2.vs, bytesOf x.name, vs, x.G⟩, rfl, rfl, hbl, by simp only []; omega, rfl, rfl, rfl, rfl, rfl, hbl, rfl, h2, Sub.refl _, ⟨by simp only []; omega, by simp only []; omega⟩, fun z3 hz3 => ⟨z3, ?_, rfl, rfl, rfl, rfl, rfl, rfl, rfl, rfl, rfl, rfl, rfl, rfl, rfl, rfl, rfl, rfl, rfl, rfl, rfl, Sub.refl _, trivial⟩⟩
      have hz3 : z3.xs = z2.xs ++ textB (bytesOf x.name) := hz3
      show z3.xs = y3.xs ++ (textB x.dd ++ (textB x.id ++ textB (bytesOf x.name)))
      rw [hz3, hz2, hz1]; simp
  have hy4 : y4.xs = y3.xs ++ (textB x.dd ++ (textB x.id ++ textB (bytesOf x.name))) := hy4
  have l4 : y4.xs.length ≤ 10000 := by rw [hy4]; simp only [List.length_append]; omega
  have er : r = (x.el : Int) := by rw [hr, wu64]; simp only []; omega
  refine ⟨⟨y4.xs, y4.vs, r, x.G⟩, rfl, rfl, rfl, rfl, rfl, rfl, rfl, Sub.refl _, ⟨by simp only []; omega, by simp only []; omega, by simp only []; omega⟩, fun y5 hy5 => ?_⟩
  have hy5 : y5.xs = y4.xs ++ numB 10 r.toNat := hy5
  have hhead : y5.xs = headB x := by
    rw [hy5, hy4, hy3, hy2, hy1, er, hv2.2.2]
    simp [headB]
  refine ⟨x, ⟨y5.xs, y5.vs, 0⟩, rfl, rfl, rfl, rfl, rfl, rfl, rfl, rfl, rfl, rfl, rfl, Sub.refl _, ⟨by simp only [List.drop_zero, hhead]; rfl, Nat.zero_le _, hx⟩, fun z hz d => ?_⟩
  obtain ⟨g1, g2, _⟩ := (hz : BytesInv _ z)
  have g2 : z.i ≤ x.el := g2
  have g3 : z.xs.length + (evsB (x.evs.drop z.i)).length ≤ 20000 := by rw [← List.length_append, g1]; exact hB
  refine ⟨fun hb => ?_, fun hb => ?_⟩
  · have hb := of_decide_eq_true hb
    have hi : z.i < x.el := by omega
    obtain ⟨b, o, e1, e, e2, e3⟩ := ev_at ho hi
    have hme := List.mem_of_getElem? e2
    have heo := ho.evs e hme
    have hek := hk e hme
    have hel := f5 e hme
    have hed := heo.d.len
    have hek1 := hek.1
    have hek2 := hek.2
    have hea1 := heo.a.1
    have hea2 := heo.a.2
    have hdrop := evsB_drop e2
    rw [hdrop] at g1 g3
    refine ⟨by omega, fun _ => ⟨b, o, e1, e.k, e.a, e.p, e.l, e.c, e3, fun r hr => ?_⟩⟩
    have er2 : r = e.k := by rw [hr, wu64]; omega
    refine ⟨⟨z.xs, z.vs, r, x.G⟩, rfl, rfl, rfl, rfl, rfl, rfl, rfl, Sub.refl _, ⟨by simp only []; omega, by simp only []; omega, by simp only []; omega⟩, fun w1 hw1 => ⟨rfl, rfl, rfl, rfl, rfl, ?_⟩⟩
    have hw1 : w1.xs = z.xs ++ numB 10 r.toNat := hw1
    have s1 := numB_len 10 r.toNat
    have n1 : w1.xs.length ≤ 20010 := by rw [hw1]; simp only [List.length_append]; omega
    refine ⟨⟨w1.xs, w1.vs, e.a, x.G⟩, rfl, rfl, rfl, rfl, rfl, rfl, rfl, Sub.refl _, ⟨hea1, hea2, by simp only []; omega⟩, fun w2 hw2 => ⟨rfl, rfl, rfl, rfl, ?_⟩⟩
    have hw2 : w2.xs = w1.xs ++ numB 10 e.a.toNat := hw2
    have s2 := numB_len 10 e.a.toNat
    have n2 : w2.xs.length ≤ 20020 := by rw [hw2]; simp only [List.length_append]; omega
    refine ⟨⟨w2.xs, w2.vs, e.p, e.l, e.c, e.d, x.G⟩, rfl, rfl, rfl, rfl, rfl, rfl, rfl, rfl, rfl, Sub.refl _, ⟨by simp only []; omega, by simp only []; omega, heo.d⟩, fun w3 hw3 => ⟨rfl, fun r4 hr4 => ?_⟩⟩
    have hw3 : w3.xs = w2.xs ++ textB e.d := hw3
    refine ⟨⟨w3.xs, w3.vs, z.i + 1⟩, ⟨?_, hi, hx⟩, ?_, rfl, rfl, rfl, rfl, rfl, rfl, ?_, rfl, rfl, rfl, rfl, Sub.refl _, trivial⟩
    · show w3.xs ++ evsB (x.evs.drop (z.i + 1)) = recB x
      rw [← g1, hw3, hw2, hw1, hr]
      simp [evB]
    · show x.el - (z.i + 1) < x.el - z.i
      omega
    · rw [hr4, w64 _ (by omega) (by omega)]; rfl
  · have hb := of_decide_eq_false hb
    have hi : z.i = x.el := by omega
    have hz0 : z.xs = recB x := by
      rw [← g1, hi, ← ho.evLen, List.drop_length]; simp [evsB]
    refine ⟨⟨z.xs, z.vs, x.G⟩, rfl, rfl, rfl, rfl, rfl, rfl, Sub.refl _, by show z.xs.length ≤ _; omega, fun y hy vs hvs _ r hr r1 hr1 r2 hr2 r3 hr3 r4 hr4 r5 hr5 r6 hr6 r7 hr7 => ⟨by omega, fun _ => ⟨by omega, fun _ => ⟨rfl, fun _ => ⟨by simp only []; omega, fun _ => ⟨by omega, fun _ c vs hc hvs _ => ?_⟩⟩⟩⟩⟩⟩
    have hy : y = sumB z.xs := hy
    refine ⟨⟨z.xs ++ ([] ++ ([r] ++ ([r2] ++ ([r4] ++ [r6])))), vs⟩, ?_, by simp, by simp; omega, rfl, by simp, rfl, hvs, Sub.refl _, trivial⟩
    show z.xs ++ ([] ++ ([r] ++ ([r2] ++ ([r4] ++ [r6])))) = recB x ++ word4 (sumB (recB x))
    rw [hr6, hr5, hr4, hr3, hr2, hr1, hr, hy, hz0]
    rfl

theorem some40_ok : SpecOk Tryz.prog 40 some40 := by
  intro args hp K h
  unfold some40 at h
  split at h
  · exact body_ok (fun f => noSpec_ok _ f) (iter_ways 12) (fun vs w => Tryz.call40 vs w) _ _ _ h
  · exact spec40 _ _ _ h
theorem some42_ok : SpecOk Tryz.prog 42 some42 := by
  intro args hp K h
  unfold some42 at h
  split at h
  · exact specTextG _ _ _ h
  · exact specTextS _ _ _ h
theorem call14_ok (f : Nat) : SpecOk Tryz.prog f (call14 f) := by
  unfold call14
  cases h1 : Nat.beq f 40
  · cases h2 : Nat.beq f 41
    · cases h3 : Nat.beq f 42
      · cases h4 : Nat.beq f 43
        · cases h5 : Nat.beq f 44
          · exact noSpec_ok _ f
          · have := beq_t h5
            subst this
            exact spec44
        · have := beq_t h4
          subst this
          exact body_ok (fun f => noSpec_ok _ f) (iter_ways 12) (fun vs w => Tryz.call43 vs w)
      · have := beq_t h3
        subst this
        exact some42_ok
    · have := beq_t h2
      subst this
      exact spec41
  · have := beq_t h1
    subst this
    exact some40_ok
theorem ways14_ok : WaysOk Tryz.prog ways14 := by
  refine ⟨fun _ => (famL_ok bytesL _).ok, fun i => ?_⟩
  show PieceOk Tryz.prog (bif Nat.beq i 3 then textP.twin else fun bx => bx)
  cases Nat.beq i 3
  · exact PieceOk.id _
  · exact textP.ok _
theorem spec14 : SpecOk Tryz.prog 14 conBytes.spec :=
  Con.sound (bodyW_ok call14_ok ways14_ok (fun vs w => Tryz.call14 vs w)) bytes_ok
end Sw
