/- vireoref27.Check does what is said. -/
import Derived.Test.YtafngdeeachggaaGreatSwBV
import Derived.Test.YtafngdeeachggaaGreatSwAP
set_option linter.unusedVariables false
set_option linter.unusedSimpArgs false
namespace Sw
set_option maxRecDepth 100000
open Go Go.Proofs Vx

theorem mixL_len : ∀ a b : List Int, (mixL a b).length = a.length
  | [], b => by cases b <;> rfl
  | x :: a, [] => rfl
  | x :: a, y :: b => by simp [mixL, mixL_len a b]
theorem mixL_append : ∀ a b c d : List Int, a.length = b.length → mixL (a ++ c) (b ++ d) = mixL a b ++ mixL c d
  | [], [], c, d, _ => by cases c <;> cases d <;> rfl
  | x :: a, y :: b, c, d, h => by simp [mixL, mixL_append a b c d (by simpa using h)]
  | [], y :: b, c, d, h => by simp at h
  | x :: a, [], c, d, h => by simp at h
theorem mix_step {lo hi : List Int} {k : Nat} (hk : k < lo.length) (hl : lo.length = hi.length) :
    (mixL (lo.take k) (hi.take k) ++ lo.drop k).getD k 0 = lo[k] ∧
    (mixL (lo.take k) (hi.take k) ++ lo.drop k).set k (mixB lo[k] (hi[k]'(hl ▸ hk))) = mixL (lo.take (k + 1)) (hi.take (k + 1)) ++ lo.drop (k + 1) := by
  have hA : (mixL (lo.take k) (hi.take k)).length = k := by rw [mixL_len]; simp; omega
  have hd : lo.drop k = lo[k] :: lo.drop (k + 1) := List.drop_eq_getElem_cons hk
  constructor
  · rw [hd, List.getD_eq_getElem?_getD, List.getElem?_append_right (by omega), hA, Nat.sub_self]; rfl
  · rw [hd, take_succ' lo k hk, take_succ' hi k (hl ▸ hk), mixL_append _ _ _ _ (by simp; omega), List.set_append_right _ _ (by omega), hA, Nat.sub_self, List.append_assoc]; rfl
theorem bitsB_len : ∀ k w, (bitsB k w).length = k
  | 0, _ => rfl
  | k + 1, w => by simp [bitsB, bitsB_len k]
theorem checkB_take {xs : List Int} {i : Nat} (h : i < xs.length) : checkB (xs.take (i + 1)) = checkStep (checkB (xs.take i)) xs[i] := by
  rw [take_succ' _ _ h, checkB, List.foldl_append]; rfl
theorem checkStep_range (w b : Int) : 0 ≤ checkStep w b ∧ checkStep w b < 4294967296 := by
  unfold checkStep
  rw [wu64]
  generalize wordB _ * 16777619 = z
  rw [Int.tmod_eq_emod_of_nonneg (by omega)]
  omega

theorem check_ok : conCheck.Vc body48 := by
  rw [check_vc]
  intro x hx
  obtain ⟨hx1, hx2⟩ := (hx : CheckPre x)
  refine ⟨x, ⟨0, 2166136261⟩, rfl, rfl, rfl, rfl, rfl, rfl, rfl, rfl, Sub.refl _, ⟨Nat.zero_le _, rfl, by decide, by decide⟩, ?_⟩
  intro y hy d
  obtain ⟨h1, h2, h3, h4⟩ := (hy : CheckInv _ y)
  have h1 : y.i ≤ x.xs.length := h1
  have h2 : y.w = checkB (x.xs.take y.i) := h2
  refine ⟨fun hb => ?_, fun hb => ?_⟩
  · have hb := of_decide_eq_true hb
    have hi : y.i < x.xs.length := by omega
    have hbyte := hx2 x.xs[y.i] (List.getElem_mem hi)
    have e : (0 + (y.i : Int).toNat * 1) = y.i := by omega
    refine ⟨⟨y.w, x.G⟩, rfl, Sub.refl _, ⟨h3, by simp only []; omega⟩, fun p hp => ⟨by omega, fun _ => ⟨by omega, fun _ r hr => ?_⟩⟩⟩
    have hp : p.xs = bitsB 64 y.w := hp
    rw [e, getD_eq _ _ _ hi, wu64] at hr
    refine ⟨⟨r, x.G⟩, rfl, Sub.refl _, ⟨by simp only []; omega, by simp only []; omega⟩, fun q hq => ?_⟩
    have hq : q.xs = bitsB 64 r := hq
    have l1 : p.xs.length = 64 := by rw [hp, bitsB_len]
    have l2 : q.xs.length = 64 := by rw [hq, bitsB_len]
    refine ⟨⟨p.xs, q.xs, x.xs, x.vs, p.vs, q.vs, y.i, x.G⟩, ⟨0, p.xs⟩, rfl, rfl, rfl, rfl, rfl, rfl, rfl, rfl, rfl, rfl, rfl, rfl, rfl, rfl, rfl, rfl, rfl, rfl, rfl, rfl, Sub.refl _, ⟨Nat.zero_le _, l1, l1, l2, rfl⟩, ?_⟩
    intro z hz d'
    obtain ⟨g1, g2, _, _, g5⟩ := (hz : MixInv _ z)
    have g5 : z.lo = mixL (p.xs.take z.k) (q.xs.take z.k) ++ p.xs.drop z.k := g5
    refine ⟨fun hb => ?_, fun hb => ?_⟩
    · have hb := of_decide_eq_true hb
      have hk : z.k < 64 := by omega
      have e : (0 + (z.k : Int).toNat * 1) = z.k := by omega
      rw [e, g2, l2]
      obtain ⟨s1, s2⟩ := mix_step (lo := p.xs) (hi := q.xs) (k := z.k) (by omega) (by omega)
      refine ⟨by omega, fun _ => ⟨hk, fun _ => ⟨by omega, fun _ => ⟨hk, fun _ r2 hr2 r3 hr3 => ⟨by omega, fun _ => ⟨hk, fun _ r4 hr4 => ?_⟩⟩⟩⟩⟩⟩
      rw [g5, s1, getD_eq _ _ _ (by omega)] at hr2
      have e3 : r3 = mixB p.xs[z.k] q.xs[z.k] := by rw [hr3, hr2]; rfl
      refine ⟨⟨z.k + 1, z.lo.set z.k r3⟩, ⟨?_, ?_, l1, l2, ?_⟩, ?_, rfl, rfl, ?_, ?_, rfl, ?_, ?_, rfl, rfl, rfl, rfl, rfl, rfl, ?_, rfl, rfl, rfl, rfl, rfl, rfl, Sub.refl _, trivial⟩
      · simp only []; omega
      · simp only [List.length_set]; exact g2
      · show z.lo.set z.k r3 = mixL (p.xs.take (z.k + 1)) (q.xs.take (z.k + 1)) ++ p.xs.drop (z.k + 1)
        rw [g5, e3, s2]
      · show 64 - (z.k + 1) < 64 - z.k
        omega
      · simp [g2]
      · simp [g2]
      · simp [l2]
      · rw [hr4, w64 _ (by omega) (by omega)]; rfl
      · simp [g2]
    · have hb := of_decide_eq_false hb
      have hk : z.k = 64 := by omega
      refine ⟨⟨z.lo, p.vs, x.G⟩, rfl, rfl, rfl, rfl, rfl, rfl, Sub.refl _, g2, fun v hv r2 hr2 r3 hr3 r4 hr4 => ?_⟩
      have hv : v = wordB z.lo := hv
      have e3 : r3 = checkStep y.w x.xs[y.i] := by
        rw [hr3, hr2, hv, g5, hk, ← l1, List.take_length, l1, ← l2, List.take_length, l2, ← l1, List.drop_length, List.append_nil, hp, hq, hr, ← wu64]; rfl
      refine ⟨⟨y.i + 1, r3⟩, ⟨hi, ?_, ?_, ?_⟩, ?_, rfl, rfl, ?_, rfl, rfl, rfl, rfl, rfl, Sub.refl _, trivial⟩
      · show r3 = checkB (x.xs.take (y.i + 1))
        rw [checkB_take hi, ← h2, e3]
      · simp only [e3]; exact (checkStep_range _ _).1
      · simp only [e3]; exact (checkStep_range _ _).2
      · show x.xs.length - (y.i + 1) < x.xs.length - y.i
        omega
      · rw [hr4, w64 _ (by simp only []; omega) (by simp only []; omega)]; rfl
  · have hb := of_decide_eq_false hb
    refine ⟨y.w, ?_, rfl, rfl, rfl, rfl, rfl, Sub.refl _, trivial⟩
    show y.w = checkB x.xs
    have hi : y.i = x.xs.length := by omega
    rw [h2, hi, List.take_length]
theorem call48_ok (f : Nat) : SpecOk Tryz.prog f (call48 f) := by
  unfold call48
  cases hb : Nat.beq f 77
  · cases hc : Nat.beq f 78
    · exact noSpec_ok _ f
    · have := beq_t hc
      subst this
      exact spec78
  · have := beq_t hb
    subst this
    exact spec77
theorem loop48_ok (b : Nat) : LoopOk Tryz.prog (loop48 b) := by
  unfold loop48
  cases Nat.beq b 0
  · exact (famL_ok mixLoop _).ok
  · exact (famL_ok checkL _).ok
theorem spec48 : SpecOk Tryz.prog 48 conCheck.spec :=
  Con.sound (body_ok call48_ok loop48_ok (fun vs w => Tryz.call48 vs w)) check_ok
end Sw
