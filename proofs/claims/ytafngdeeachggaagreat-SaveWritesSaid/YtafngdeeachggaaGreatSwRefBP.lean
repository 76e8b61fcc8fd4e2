/- vireoref27.Bytes does what is said. -/
import Derived.Test.YtafngdeeachggaaGreatSwRefBV
import Derived.Test.YtafngdeeachggaaGreatSwBytesP
set_option linter.unusedVariables false
set_option linter.unusedSimpArgs false
namespace Sw
set_option maxRecDepth 100000
open Go Go.Proofs Vx

theorem numB_byte : ∀ k n, ∀ b ∈ numB k n, IsByte b
  | 0, _, b, h => (by cases h)
  | k + 1, n, b, h => by
    unfold numB at h
    split at h
    · rename_i hn
      simp only [List.mem_singleton] at h
      subst h
      exact ⟨by omega, by omega⟩
    · rcases List.mem_cons.1 h with rfl | h
      · exact ⟨by omega, by omega⟩
      · exact numB_byte k _ b h
theorem textB_byte {d : List Int} (h : ∀ b ∈ d, IsByte b) : ∀ b ∈ textB d, IsByte b := by
  intro b hb
  rcases List.mem_append.1 hb with hb | hb
  · exact numB_byte _ _ b hb
  · exact h b hb
theorem bytesOf_byte (s : ByteArray) : ∀ b ∈ bytesOf s, IsByte b := by
  intro b hb
  obtain ⟨u, _, rfl⟩ := List.mem_map.1 hb
  have := u.toNat_lt
  exact ⟨by omega, by omega⟩
theorem evsB_byte : ∀ l : List Ev, (∀ e ∈ l, ∀ b ∈ e.d, IsByte b) → ∀ b ∈ evsB l, IsByte b
  | [], _, b, h => (by cases h)
  | e :: r, he, b, h => by
    rcases List.mem_append.1 h with h | h
    · rcases List.mem_append.1 h with h | h
      · exact numB_byte _ _ b h
      · rcases List.mem_append.1 h with h | h
        · exact numB_byte _ _ b h
        · exact textB_byte (he e List.mem_cons_self) b h
    · exact evsB_byte r (fun e' h' => he e' (List.mem_cons_of_mem _ h')) b h
theorem recB_byte {x : RecX} (hx : RecOk x) : ∀ b ∈ recB x, IsByte b := by
  intro b h
  rcases List.mem_append.1 h with h | h
  · rcases List.mem_append.1 h with h | h
    · simp only [List.mem_cons, List.not_mem_nil, or_false] at h
      rcases h with rfl | rfl | rfl | rfl | rfl | rfl <;> exact ⟨by decide, by decide⟩
    · rcases List.mem_append.1 h with h | h
      · exact numB_byte _ _ b h
      · rcases List.mem_append.1 h with h | h
        · exact numB_byte _ _ b h
        · rcases List.mem_append.1 h with h | h
          · exact numB_byte _ _ b h
          · rcases List.mem_append.1 h with h | h
            · exact textB_byte hx.disk.byte b h
            · rcases List.mem_append.1 h with h | h
              · exact textB_byte hx.image.byte b h
              · rcases List.mem_append.1 h with h | h
                · exact textB_byte (bytesOf_byte _) b h
                · exact numB_byte _ _ b h
  · exact evsB_byte _ (fun e he => (hx.evs e he).d.byte) b h

theorem ref_ok : conRef.Vc body15 := by
  rw [ref_vc]
  intro x hx
  have hx : BytesPre x := hx
  have hB := recB_len hx
  have hH := headB_len hx
  obtain ⟨ho, ⟨f1, f2, f3, f4, f5, f6⟩, hk⟩ := id hx
  have hdl := ho.disk.len
  have hil := ho.image.len
  have hbl := bytesOf_len x.name
  have hram := ho.ram.2
  have hsec := ho.sec.2
  have q1 := numB_len 10 x.ram.toNat
  have q2 := numB_len 10 x.sec.toNat
  have q3 := textB_len x.dd
  have q4 := textB_len x.id
  have q5 := textB_len (bytesOf x.name)
  intro c vs h1 h2 _
  refine ⟨by omega, fun _ => ⟨by omega, fun _ => ?_⟩⟩
  intro c vs h1 h2 _
  refine ⟨by omega, fun _ => ⟨by omega, fun _ => ?_⟩⟩
  intro c vs h1 h2 _
  refine ⟨by omega, fun _ => ⟨by omega, fun _ => ?_⟩⟩
  intro c vs h1 h2 _
  refine ⟨by omega, fun _ => ⟨by omega, fun _ => ?_⟩⟩
  intro c vs h1 h2 _
  refine ⟨by omega, fun _ => ⟨by omega, fun _ => ?_⟩⟩
  intro c vs h1 h2 _
  refine ⟨⟨[246, 210, 201, 171, 246, 13], vs, x.ram, x.G⟩, rfl, by simp; omega, rfl, rfl, rfl, rfl, h2, Sub.refl _, ⟨ho.ram.1, ho.ram.2, by simp only [List.length_cons, List.length_nil]; omega, hram⟩, fun y1 hy1 => ?_⟩
  have hy1 : y1.xs = [246, 210, 201, 171, 246, 13] ++ numB 10 x.ram.toNat := hy1
  have l1 : y1.xs.length ≤ 16 := by rw [hy1]; simp only [List.length_append, List.length_cons, List.length_nil]; omega
  refine ⟨⟨y1.xs, y1.vs, x.sec, x.G⟩, rfl, rfl, rfl, rfl, rfl, rfl, rfl, Sub.refl _, ⟨ho.sec.1, ho.sec.2, by simp only []; omega, hsec⟩, fun y2 hy2 => ⟨fun hlk => ?_, fun hlk => ?_⟩⟩
  all_goals
    have hy2 : y2.xs = y1.xs ++ numB 10 x.sec.toNat := hy2
    have l2 : y2.xs.length ≤ 26 := by rw [hy2]; simp only [List.length_append]; omega
    refine ⟨⟨y2.xs, y2.vs, _, x.G⟩, rfl, rfl, rfl, rfl, rfl, rfl, rfl, Sub.refl _, ⟨by simp only []; omega, by simp only []; omega, ?_, by simp only []; omega⟩, fun y3 hy3 => ?_⟩
    · have := numB_len 10 1
      have := numB_len 10 0
      simp only [Int.toNat_one, Int.toNat_zero]; omega
    have hy3 : y3.xs = y2.xs ++ numB 10 (cond x.locked 1 0) := by
      have : y3.xs = y2.xs ++ numB 10 _ := hy3
      rw [this, hlk]; rfl
    have q6 := numB_len 10 (cond x.locked 1 0)
    have l3 : y3.xs.length ≤ 36 := by rw [hy3]; simp only [List.length_append]; omega
    refine ⟨⟨y3.xs, y3.vs, x.dp, x.dl, x.dc, x.dd, x.G⟩, rfl, rfl, rfl, rfl, rfl, rfl, rfl, rfl, rfl, Sub.refl _, ⟨by simp only []; omega, by simp only []; omega, ho.disk⟩, fun z1 hz1 => ?_⟩
    have hz1 : z1.xs = y3.xs ++ textB x.dd := hz1
    have m1 : z1.xs.length ≤ 4000 := by rw [hz1]; simp only [List.length_append]; omega
    refine ⟨⟨z1.xs, z1.vs, x.ip, x.il, x.ic, x.id, x.G⟩, rfl, rfl, rfl, rfl, rfl, rfl, rfl, rfl, rfl, Sub.refl _, ⟨by simp only []; omega, by simp only []; omega, ho.image⟩, fun z2 hz2 c vs h1 h2 _ => ?_⟩
    have hz2 : z2.xs = z1.xs ++ textB x.id := hz2
    have m2 : z2.xs.length ≤ 8000 := by rw [hz2]; simp only [List.length_append]; omega
    refine ⟨⟨z2.xs, z2.vs, bytesOf x.name, vs, x.G⟩, rfl, rfl, hbl, by simp only []; omega, rfl, rfl, rfl, rfl, rfl, hbl, rfl, h2, Sub.refl _, ⟨by simp only []; omega, by simp only []; omega⟩, fun z3 hz3 r hr => ?_⟩
    have hz3 : z3.xs = z2.xs ++ textB (bytesOf x.name) := hz3
    have hy4 : z3.xs = y3.xs ++ (textB x.dd ++ (textB x.id ++ textB (bytesOf x.name))) := by rw [hz3, hz2, hz1]; simp
    have l4 : z3.xs.length ≤ 10000 := by rw [hy4]; simp only [List.length_append]; omega
    have er : r = (x.el : Int) := by rw [hr, wu64]; omega
    have q7 := numB_len 10 r.toNat
    refine ⟨⟨z3.xs, z3.vs, r, x.G⟩, rfl, rfl, rfl, rfl, rfl, rfl, rfl, Sub.refl _, ⟨by simp only []; omega, by simp only []; omega, by simp only []; omega, by show r < ((18446744073709551616 : Nat) : Int); omega⟩, fun y5 hy5 => ?_⟩
    have hy5 : y5.xs = z3.xs ++ numB 10 r.toNat := hy5
    have hhead : y5.xs = headB x := by
      rw [hy5, hy4, hy3, hy2, hy1, er]
      simp [headB]
    refine ⟨x, ⟨y5.xs, y5.vs, 0⟩, rfl, rfl, rfl, rfl, rfl, rfl, rfl, rfl, rfl, rfl, rfl, rfl, rfl, rfl, rfl, rfl, rfl, rfl, rfl, rfl, Sub.refl _, ⟨by simp only [List.drop_zero, hhead]; rfl, Nat.zero_le _, hx⟩, fun z hz d => ?_⟩
    obtain ⟨g1, g2, _⟩ := (hz : BytesInv _ z)
    have g2 : z.i ≤ x.el := g2
    have g3 : z.xs.length + (evsB (x.evs.drop z.i)).length ≤ 20000 := by rw [← List.length_append, g1]; exact hB
    refine ⟨fun hb => ?_, fun hb => ?_⟩
    · have hb := of_decide_eq_true hb
      have hi : z.i < x.el := by omega
      obtain ⟨b, o, e1, e, e2, e3⟩ := ev_at ho hi
      have hme := List.mem_of_getElem? e2
      have heo := ho.evs e hme
      have hek := hk e hme
      have hel := f5 e hme
      have hed := heo.d.len
      have hek1 := hek.1
      have hek2 := hek.2
      have hea1 := heo.a.1
      have hea2 := heo.a.2
      have hdrop := evsB_drop e2
      rw [hdrop] at g1 g3
      refine ⟨by omega, fun _ => ⟨b, o, e1, e.k, e.a, e.p, e.l, e.c, e3, fun r hr => ?_⟩⟩
      have er2 : r = e.k := by rw [hr, wu64]; omega
      have s1 := numB_len 10 r.toNat
      refine ⟨⟨z.xs, z.vs, r, x.G⟩, rfl, rfl, rfl, rfl, rfl, rfl, rfl, Sub.refl _, ⟨by simp only []; omega, by simp only []; omega, by simp only []; omega, by show r < ((18446744073709551616 : Nat) : Int); omega⟩, fun w1 hw1 => ?_⟩
      have hw1 : w1.xs = z.xs ++ numB 10 r.toNat := hw1
      have n1 : w1.xs.length ≤ 20010 := by rw [hw1]; simp only [List.length_append]; omega
      have s2 := numB_len 10 e.a.toNat
      refine ⟨⟨w1.xs, w1.vs, e.a, x.G⟩, rfl, rfl, rfl, rfl, rfl, rfl, rfl, Sub.refl _, ⟨hea1, hea2, by simp only []; omega, hea2⟩, fun w2 hw2 => ?_⟩
      have hw2 : w2.xs = w1.xs ++ numB 10 e.a.toNat := hw2
      have n2 : w2.xs.length ≤ 20020 := by rw [hw2]; simp only [List.length_append]; omega
      refine ⟨⟨w2.xs, w2.vs, e.p, e.l, e.c, e.d, x.G⟩, rfl, rfl, rfl, rfl, rfl, rfl, rfl, rfl, rfl, Sub.refl _, ⟨by simp only []; omega, by simp only []; omega, heo.d⟩, fun w3 hw3 r4 hr4 => ?_⟩
      have hw3 : w3.xs = w2.xs ++ textB e.d := hw3
      refine ⟨⟨w3.xs, w3.vs, z.i + 1⟩, ⟨?_, hi, hx⟩, ?_, rfl, rfl, ?_, rfl, rfl, rfl, rfl, rfl, rfl, rfl, rfl, rfl, rfl, rfl, rfl, rfl, rfl, rfl, rfl, rfl, Sub.refl _, trivial⟩
      · show w3.xs ++ evsB (x.evs.drop (z.i + 1)) = recB x
        rw [← g1, hw3, hw2, hw1, hr]
        simp [evB]
      · show x.el - (z.i + 1) < x.el - z.i
        omega
      · rw [hr4, w64 _ (by omega) (by omega)]; rfl
    · have hb := of_decide_eq_false hb
      have hi : z.i = x.el := by omega
      have hz0 : z.xs = recB x := by
        rw [← g1, hi, ← ho.evLen, List.drop_length]; simp [evsB]
      refine ⟨⟨z.xs, z.vs, x.G⟩, rfl, rfl, rfl, rfl, rfl, rfl, Sub.refl _, ⟨by show z.xs.length ≤ _; omega, by show ∀ b ∈ z.xs, _; rw [hz0]; exact recB_byte ho⟩, fun y hy r hr r1 hr1 c vs hc hvs _ r2 hr2 r3 hr3 r4 hr4 => ⟨by omega, fun _ => ⟨by omega, fun _ => ?_⟩⟩⟩
      intro c vs hc hvs _ r5 hr5 r6 hr6 r7 hr7
      refine ⟨by omega, fun _ => ⟨by omega, fun _ => ?_⟩⟩
      intro c vs hc hvs _ r8 hr8 r9 hr9 r10 hr10
      refine ⟨by omega, fun _ => ⟨by omega, fun _ => ?_⟩⟩
      intro c vs hc hvs _ r11 hr11
      refine ⟨by omega, fun _ => ⟨by omega, fun _ => ⟨rfl, fun _ => ⟨by simp only []; omega, fun _ => ⟨by omega, fun _ c vs hc hvs _ => ?_⟩⟩⟩⟩⟩
      have hy : y = checkB z.xs := hy
      refine ⟨⟨_, vs⟩, ?_, ?_, ?_, rfl, ?_, rfl, hvs, Sub.refl _, trivial⟩
      · show _ = recB x ++ ref4 (checkB (recB x))
        rw [hr10, hr9, hr8, hr7, hr6, hr5, hr4, hr3, hr2, hr1, hr, hy, hz0]
        rfl
      · simp
      · simp; omega
      · simp

theorem lit45_ok : ∀ d, SpecOk Tryz.prog 45 (lit45 d)
  | 0 => noSpec_ok _ _
  | d + 1 => by
    refine body_ok (fun f => ?_) (iter_ways 0) (fun vs w => Tryz.call45 vs w)
    cases hb : Nat.beq f 45
    · exact noSpec_ok _ f
    · have := beq_t hb
      subst this
      exact lit45_ok d
theorem some45_ok : SpecOk Tryz.prog 45 some45 := by
  intro args hp K h
  unfold some45 at h
  split at h
  · exact lit45_ok 8 _ _ _ h
  · exact spec45 refK _ _ _ h
theorem some46_ok : SpecOk Tryz.prog 46 some46 := by
  intro args hp K h
  unfold some46 at h
  split at h
  · exact specRefG _ _ _ h
  · exact specRefS _ _ _ h
theorem call15_ok (f : Nat) : SpecOk Tryz.prog f (call15 f) := by
  unfold call15
  cases h1 : Nat.beq f 45
  · cases h2 : Nat.beq f 46
    · cases h3 : Nat.beq f 47
      · cases h4 : Nat.beq f 48
        · exact noSpec_ok _ f
        · have := beq_t h4
          subst this
          exact spec48
      · have := beq_t h3
        subst this
        exact body_ok (fun f => noSpec_ok _ f) (iter_ways 12) (fun vs w => Tryz.call47 vs w)
    · have := beq_t h2
      subst this
      exact some46_ok
  · have := beq_t h1
    subst this
    exact some45_ok
theorem spec15 : SpecOk Tryz.prog 15 conRef.spec :=
  Con.sound (body_ok call15_ok (fun _ => (famL_ok refL _).ok) (fun vs w => Tryz.call15 vs w)) ref_ok
end Sw
