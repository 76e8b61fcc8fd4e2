/- save.sum, vireoref27.number, vireoref01.Bits and Word, vireoref02.Bytes do what is said. -/
import Derived.Test.YtafngdeeachggaaGreatSwAV
import Derived.Test.YtafngdeeachggaaGreatSwNumP
set_option linter.unusedVariables false
set_option linter.unusedSimpArgs false
namespace Sw
set_option maxRecDepth 100000
open Go Go.Proofs Vx

theorem w64 (n : Int) (h1 : -9223372036854775808 ≤ n) (h2 : n < 9223372036854775808) : IntKind.i64.wrap n = n := by
  simp only [IntKind.wrap, IntKind.bits, IntKind.signed]
  simp
  split <;> omega
theorem wu64 (n : Int) : IntKind.u64.wrap n = n % 18446744073709551616 := by simp [IntKind.wrap, IntKind.bits, IntKind.signed]
theorem getD_eq {α : Type} (l : List α) (i : Nat) (d : α) (h : i < l.length) : l.getD i d = l[i] := by simp [List.getD, h]
theorem take_succ' {α : Type} (l : List α) (i : Nat) (h : i < l.length) : l.take (i + 1) = l.take i ++ [l[i]] := by
  rw [List.take_add_one]; simp [h]

theorem sum_ok : conSum.Vc body44 := by
  rw [sum_vc]
  intro x hx
  have hx : SumPre x := hx
  unfold SumPre at hx
  refine ⟨x, ⟨0, 2166136261⟩, rfl, rfl, rfl, rfl, rfl, rfl, rfl, rfl, rfl, Sub.refl _, ⟨Nat.zero_le _, rfl⟩, ?_⟩
  intro y hy d
  obtain ⟨h1, h2⟩ := (hy : SumInv _ y)
  refine ⟨fun hb => ?_, fun hb => ?_⟩
  · have hb := of_decide_eq_true hb
    refine ⟨by omega, fun _ => ⟨by omega, fun _ r hr r1 hr1 r2 hr2 r3 hr3 r4 hr4 => ?_⟩⟩
    have hi : y.i < x.xs.length := by omega
    refine ⟨⟨y.i + 1, r3⟩, ⟨hi, ?_⟩, ?_, rfl, rfl, rfl, ?_, rfl, rfl, rfl, rfl, rfl, Sub.refl _, trivial⟩
    · show r3 = sumB (x.xs.take (y.i + 1))
      rw [take_succ' _ _ hi, sumB, List.foldl_append]
      have h2 : y.w = List.foldl stepB 2166136261 (x.xs.take y.i) := h2
      rw [← h2]
      show r3 = stepB y.w x.xs[y.i]
      have e : (0 + (y.i : Int).toNat * 1) = y.i := by omega
      rw [e, getD_eq _ _ _ hi] at hr
      rw [hr3, hr2, hr1, hr]; rfl
    · show x.xs.length - (y.i + 1) < x.xs.length - y.i
      omega
    · rw [hr4, w64 _ (by omega) (by omega)]; rfl
  · have hb := of_decide_eq_false hb
    refine ⟨y.w, ?_, rfl, rfl, rfl, rfl, rfl, Sub.refl _, trivial⟩
    show y.w = sumB x.xs
    have hi : y.i = x.xs.length := by
      have : y.i ≤ x.xs.length := h1
      omega
    have h2 : y.w = sumB (x.xs.take y.i) := h2
    rw [h2, hi, List.take_length]
theorem spec44 : SpecOk Tryz.prog 44 conSum.spec :=
  Con.sound (body_ok (fun f => noSpec_ok _ f) (fun _ => (famL_ok sumL _).ok) (fun vs w => Tryz.call44 vs w)) sum_ok

theorem numR_ok (k : Nat) : (conNumR (k + 1)).Vc (body45 k) := by
  have h := numR_vc.mpr
  revert k
  refine h ?_
  clear h
  intro k x hx
  obtain ⟨h1, h2, h3, h4⟩ := (hx : NumRPre (k + 1) x)
  have h4 : x.n < ((k + 1 : Nat) : Int) := h4
  refine ⟨fun hb r hr => ?_, fun hb r hr r1 hr1 r2 hr2 => ?_⟩
  · have hb := of_decide_eq_true hb
    have hst := numB_last (n := x.n.toNat) (by omega)
    have hl2 : 1 ≤ (numB 10 x.n.toNat).length := by rw [hst]; simp
    refine ⟨by omega, fun _ => ⟨by omega, fun _ => ⟨rfl, fun _ => ⟨by omega, fun _ => ⟨by omega, fun _ c vs hc hvs hcells => ?_⟩⟩⟩⟩⟩
    refine ⟨⟨x.xs ++ [r], vs⟩, ?_, by simp, by simp; omega, rfl, by simp, rfl, hvs, Sub.refl _, trivial⟩
    show x.xs ++ [r] = x.xs ++ numB 10 x.n.toNat
    rw [hst, hr, IntKind.wrap_u8']
    congr 2
    omega
  · have hb := of_decide_eq_false hb
    have hst := numB_step (n := x.n.toNat) (by omega) (by omega)
    have hl2 : (numB 10 x.n.toNat).length = (numB 10 (x.n.toNat / 128)).length + 1 := by rw [hst]; simp
    have ht : x.n.tmod 128 = x.n % 128 := Int.tmod_eq_emod_of_nonneg h1
    have ht2 : x.n.tdiv 128 = x.n / 128 := Int.tdiv_eq_ediv_of_nonneg h1
    have e2 : r2 = ((x.n.toNat % 128 + 128 : Nat) : Int) := by
      rw [hr2, hr1, hr, ht, wu64, IntKind.wrap_u8']; omega
    refine ⟨by omega, fun _ => ⟨by omega, fun _ => ⟨rfl, fun _ => ⟨by omega, fun _ => ⟨by omega, fun _ c vs hc hvs hcells r3 hr3 => ?_⟩⟩⟩⟩⟩
    have e3 : r3 = x.n / 128 := by rw [hr3, ht2, wu64]; omega
    have e4 : r3.toNat = x.n.toNat / 128 := by omega
    refine ⟨⟨x.xs ++ [r2], vs, r3, x.G⟩, by simp, by simp; omega, rfl, rfl, by simp, rfl, hvs, Sub.refl _, ⟨?_, ?_, ?_, ?_⟩, fun y hy => ⟨y, ?_, rfl, rfl, rfl, rfl, rfl, rfl, Sub.refl _, trivial⟩⟩
    · simp only []; omega
    · simp only []; omega
    · simp only [List.length_append, List.length_singleton, e4]; omega
    · simp only []; omega
    · show y.xs = x.xs ++ numB 10 x.n.toNat
      have hy : y.xs = (x.xs ++ [r2]) ++ numB 10 r3.toNat := hy
      rw [hy, hst, e2, e4]
      simp
theorem spec45 : ∀ k, SpecOk Tryz.prog 45 (conNumR k).spec
  | 0 => by
    refine Con.sound (noSpec_ok _ _) fun x hx => ?_
    obtain ⟨h1, _, _, h4⟩ := (hx : NumRPre 0 x)
    omega
  | k + 1 => by
    refine Con.sound (body_ok (fun f => ?_) (fun _ c bx _ F β T hp a w K _ _ h => h.elim) (fun vs w => Tryz.call45 vs w)) (numR_ok k)
    unfold callR
    cases hb : Nat.beq f 45
    · exact noSpec_ok _ f
    · have := beq_t hb
      subst this
      exact spec45 k

theorem bits_ok : conBits.Vc body77 := by
  rw [bits_vc]
  intro x hx r hr r1 hr1 c vs hc hvs hcells r2 hr2
  obtain ⟨h1, h2⟩ := (hx : BitPre x)
  have ht : x.w.tmod 2 = x.w % 2 := Int.tmod_eq_emod_of_nonneg h1
  have ht2 : x.w.tdiv 2 = x.w / 2 := Int.tdiv_eq_ediv_of_nonneg h1
  have e2 : r2 = x.w / 2 := by rw [hr2, ht2, wu64]; omega
  refine ⟨⟨bitsB 64 x.w, [], x.G⟩, ⟨[r1], vs, 1, r2⟩, rfl, by simp; omega, rfl, rfl, rfl, rfl, rfl, hvs, Sub.refl _, ⟨?_, rfl, (by show 1 ≤ 64; decide), ?_, ?_⟩, ?_⟩
  · show [r1] ++ bitsB 63 r2 = bitsB 64 x.w
    rw [hr1, hr, ht, e2]; rfl
  · simp only []; omega
  · simp only []; omega
  intro y hy d
  obtain ⟨g1, g2, g3, g4, g5⟩ := (hy : BitInv _ y)
  have g1 : y.xs ++ bitsB (64 - y.i) y.w = bitsB 64 x.w := g1
  refine ⟨fun hb r hr r1 hr1 => ?_, fun hb => ?_⟩
  · have hb := of_decide_eq_true hb
    have ht : y.w.tmod 2 = y.w % 2 := Int.tmod_eq_emod_of_nonneg g4
    have ht2 : y.w.tdiv 2 = y.w / 2 := Int.tdiv_eq_ediv_of_nonneg g4
    refine ⟨by omega, fun _ => ⟨by omega, fun _ => ⟨rfl, fun _ => ⟨by omega, fun _ => ⟨by omega, fun _ c vs hc hvs hcells r3 hr3 r4 hr4 => ?_⟩⟩⟩⟩⟩
    have e3 : r3 = y.w / 2 := by rw [hr3, ht2, wu64]; omega
    refine ⟨⟨y.xs ++ [r1], vs, y.i + 1, r3⟩, ⟨?_, ?_, ?_, ?_, ?_⟩, ?_, by simp, by simp; omega, ?_, rfl, rfl, by simp, rfl, hvs, Sub.refl _, trivial⟩
    · show (y.xs ++ [r1]) ++ bitsB (64 - (y.i + 1)) r3 = bitsB 64 x.w
      rw [← g1, show 64 - y.i = (64 - (y.i + 1)) + 1 by omega, hr1, hr, ht, e3]
      simp [bitsB]
    · simp [g2]
    · simp only []; omega
    · simp only []; omega
    · simp only []; omega
    · show 64 - (y.i + 1) < 64 - y.i
      omega
    · rw [hr4, w64 _ (by omega) (by omega)]; rfl
  · have hb := of_decide_eq_false hb
    refine ⟨⟨y.xs, y.vs⟩, ?_, rfl, rfl, rfl, rfl, rfl, rfl, Sub.refl _, trivial⟩
    show y.xs = bitsB 64 x.w
    rw [← g1, show 64 - y.i = 0 by omega]
    simp [bitsB]
theorem spec77 : SpecOk Tryz.prog 77 conBits.spec :=
  Con.sound (body_ok (fun f => noSpec_ok _ f) (fun _ => peel_ok (famL_ok bitL _)) (fun vs w => Tryz.call77 vs w)) bits_ok

theorem word_ok : conWord.Vc body78 := by
  rw [word_vc]
  intro x hx r hr r1 hr1
  have hx : x.xs.length = 64 := hx
  have e0 : r = 64 := by rw [hr, hx]; decide
  have e1 : r1 = 63 := by rw [hr1, e0]; decide
  refine ⟨x, ⟨r1, 0⟩, rfl, rfl, rfl, rfl, rfl, rfl, rfl, rfl, Sub.refl _, ⟨?_, ?_, ?_⟩, ?_⟩
  · simp only []; omega
  · simp only []; omega
  · show (0 : Int) = wordB (x.xs.drop (r1 + 1).toNat)
    rw [e1, List.drop_eq_nil_of_le (by rw [hx]; decide)]; rfl
  intro y hy d
  obtain ⟨g1, g2, g3⟩ := (hy : WordInv _ y)
  refine ⟨fun hb r hr => ?_, fun hb => ?_⟩
  · have hb := of_decide_eq_true hb
    refine ⟨by omega, fun _ => ⟨by omega, fun _ r2 hr2 r3 hr3 r4 hr4 => ?_⟩⟩
    have e4 : r4 = y.i - 1 := by rw [hr4]; exact w64 _ (by omega) (by omega)
    refine ⟨⟨r4, r3⟩, ⟨?_, ?_, ?_⟩, ?_, rfl, rfl, rfl, rfl, rfl, rfl, rfl, rfl, Sub.refl _, trivial⟩
    · simp only []; omega
    · simp only []; omega
    · show r3 = wordB (x.xs.drop (r4 + 1).toNat)
      have hi : y.i.toNat < x.xs.length := by omega
      have g3 : y.w = wordB (x.xs.drop (y.i + 1).toNat) := g3
      rw [show (r4 + 1).toNat = y.i.toNat by omega, List.drop_eq_getElem_cons hi]
      show _ = IntKind.u64.wrap (IntKind.u64.wrap (wordB (x.xs.drop (y.i.toNat + 1)) * 2) + IntKind.u64.wrap x.xs[y.i.toNat])
      rw [show y.i.toNat + 1 = (y.i + 1).toNat by omega, ← g3, hr3, hr, hr2, show 0 + y.i.toNat * 1 = y.i.toNat by omega, getD_eq _ _ _ hi]
    · show (r4 + 1).toNat < (y.i + 1).toNat
      omega
  · have hb := of_decide_eq_false hb
    refine ⟨y.w, ?_, rfl, rfl, rfl, rfl, rfl, Sub.refl _, trivial⟩
    show y.w = wordB x.xs
    have g3 : y.w = wordB (x.xs.drop (y.i + 1).toNat) := g3
    rw [g3, show (y.i + 1).toNat = 0 by omega, List.drop_zero]
theorem spec78 : SpecOk Tryz.prog 78 conWord.spec :=
  Con.sound (body_ok (fun f => noSpec_ok _ f) (fun _ => (famL_ok wordL _).ok) (fun vs w => Tryz.call78 vs w)) word_ok

theorem cmp_ok : conCmp.Vc body13 := by
  rw [cmp_vc]
  intro x hx
  have hx : x.xs.length ≤ 1000000100 := hx
  refine ⟨fun hb => ?_, fun hb => ?_⟩
  · have hne : x.xs.length ≠ x.ys.length := by have := bne_iff_ne.1 hb; omega
    refine ⟨false, ?_, rfl, rfl, rfl, rfl, rfl, rfl, rfl, rfl, rfl, Sub.refl _, trivial⟩
    show false = decide (x.xs = x.ys)
    exact (decide_eq_false fun h => hne (by rw [h])).symm
  · have he : x.xs.length = x.ys.length := Int.ofNat.inj (by simpa using hb)
    refine ⟨x, 0, rfl, rfl, rfl, rfl, rfl, rfl, rfl, rfl, rfl, rfl, rfl, rfl, rfl, Sub.refl _, ⟨Nat.zero_le _, he, rfl⟩, ?_⟩
    intro i hi d
    obtain ⟨g1, g2, g3⟩ := (hi : CmpInv _ i)
    refine ⟨fun hb => ?_, fun hb => ?_⟩
    · have hb := of_decide_eq_true hb
      have l1 : i < x.xs.length := by omega
      have l2 : i < x.ys.length := by omega
      have e : (0 + (i : Int).toNat * 1) = i := by omega
      refine ⟨by omega, fun _ => ⟨by omega, fun _ => ⟨by omega, fun _ => ⟨by omega, fun _ => ?_⟩⟩⟩⟩
      rw [e, getD_eq _ _ _ l1, getD_eq _ _ _ l2]
      refine ⟨fun hb => ?_, fun hb r hr => ?_⟩
      · have hne : x.xs[i] ≠ x.ys[i] := by simpa using hb
        refine ⟨false, ?_, rfl, rfl, rfl, rfl, rfl, rfl, rfl, rfl, rfl, Sub.refl _, trivial⟩
        show false = decide (x.xs = x.ys)
        refine (decide_eq_false fun h => hne ?_).symm
        exact List.getElem_of_eq h l1
      · have heq : x.xs[i] = x.ys[i] := by simpa using hb
        refine ⟨i + 1, ⟨l1, g2, ?_⟩, ?_, rfl, rfl, rfl, rfl, ?_, rfl, rfl, rfl, rfl, rfl, rfl, rfl, rfl, Sub.refl _, trivial⟩
        · show x.xs.take (i + 1) = x.ys.take (i + 1)
          have g3 : x.xs.take i = x.ys.take i := g3
          rw [take_succ' _ _ l1, take_succ' _ _ l2, g3, heq]
        · show x.xs.length - (i + 1) < x.xs.length - i
          omega
        · rw [hr, w64 _ (by omega) (by omega)]; rfl
    · have hb := of_decide_eq_false hb
      refine ⟨true, ?_, rfl, rfl, rfl, rfl, rfl, rfl, rfl, rfl, rfl, Sub.refl _, trivial⟩
      show true = decide (x.xs = x.ys)
      have g1 : i ≤ x.xs.length := g1
      have g3 : x.xs.take i = x.ys.take i := g3
      have hi : i = x.xs.length := by omega
      refine (decide_eq_true ?_).symm
      rw [hi, List.take_length, he, List.take_length] at g3
      exact g3
theorem spec13 : SpecOk Tryz.prog 13 conCmp.spec :=
  Con.sound (body_ok (fun f => noSpec_ok _ f) (fun _ => (famL_ok cmpL _).ok) (fun vs w => Tryz.call13 vs w)) cmp_ok
end Sw
