/- The law GdbHex comes to true; gdb.plain does what is said. -/
import Derived.Test.YtafngdeeachggaaGreatHex01
import Derived.Test.YtafngdeeachggaaGreatHex02
import Derived.Test.YtafngdeeachggaaGreatHex03
import Derived.Test.YtafngdeeachggaaGreatHex04
import Derived.Test.YtafngdeeachggaaGreatHex05
import Derived.Test.YtafngdeeachggaaGreatHex06
import Derived.Test.YtafngdeeachggaaGreatHex07
import Derived.Test.YtafngdeeachggaaGreatHex08
import Derived.Test.YtafngdeeachggaaGreatHex09
import Derived.Test.YtafngdeeachggaaGreatHex10
set_option linter.unusedVariables false
set_option linter.unusedSimpArgs false
section
namespace Sw
set_option maxRecDepth 100000
open Go Go.Proofs Vx

theorem hexV_hexD {n : Int} (h0 : 0 ≤ n) (h1 : n < 16) : hexV (hexD n) = some n := by
  unfold hexD hexV
  repeat' split
  all_goals first | (exfalso; omega) | (congr 1; omega)
theorem unhexL_hexL : ∀ l : List Int, (∀ b ∈ l, IsByte b) → unhexL (hexL l) = some l
  | [], _ => rfl
  | b :: r, h => by
    obtain ⟨h0, h1⟩ := h b List.mem_cons_self
    have ih := unhexL_hexL r fun x hx => h x (List.mem_cons_of_mem _ hx)
    simp only [hexL, unhexL, hexV_hexD (show 0 ≤ b / 16 by omega) (by omega), hexV_hexD (show 0 ≤ b % 16 by omega) (by omega), ih]
    congr 2
    omega
theorem toList_true {a b : ByteArray} (h : a = b) : (a.toList == b.toList) = true := toList_eq h
theorem call7_ok (f : Nat) : SpecOk Tryz.prog f (call7 f) :=
  pick1 spec25 <| pick1 spec27 <| pick1 spec29 <| pick1 spec26 <| pick1 spec28 <| pick1 spec13G <| pick1 spec30 <| pick1 spec31 <| noSpec_ok _ f
theorem body_okA7 : SpecOk Tryz.prog 7 body7 := body_ok call7_ok (iter_ways 0) (fun vs w => Tryz.call7 vs w)
theorem law7_ex : ∃ T, SpecOk Tryz.prog 7 T ∧ conLaw7.Vc T := by
  refine ⟨body7, body_okA7, ?_⟩
  rw [law7_vc]
  intro x hx
  obtain ⟨hb, hl, hs⟩ := (hx : Bs x.G x.p x.l x.c x.d ∧ x.l < 9223372036854775808 ∧ x.s.size < 9223372036854775808)
  refine ⟨⟨x.G⟩, Sub.refl _, trivial, fun _ _ => ⟨fun _ => ⟨x.G, Sub.refl _, rfl, Sub.refl _, trivial⟩, fun h1 => ⟨fun _ => ⟨x.G, Sub.refl _, rfl, Sub.refl _, trivial⟩, fun h2 => ?_⟩⟩⟩
  have h1 := of_decide_eq_false h1
  have h2 := of_decide_eq_false h2
  have hl3 : x.l ≤ 300 := by omega
  have hs3 : x.s.size ≤ 300 := by omega
  have hhb := hexL_byte x.d hb.byte
  refine ⟨⟨x.p, x.l, x.c, x.d, x.G⟩, rfl, rfl, rfl, Sub.refl _, ⟨hb, by show x.l ≤ 1000000; omega⟩, fun q hq => ?_⟩
  have hq : q = strOf (hexL x.d) := hq
  refine ⟨⟨q, x.G⟩, rfl, Sub.refl _, ?_, fun y hy => ?_⟩
  · show q.size ≤ 1000000
    rw [hq, strOf_len, hexL_len, hb.len]; omega
  obtain ⟨y1, y2, y3, y4⟩ := (hy : MayOk x.G (unhexL (bytesOf q)) y)
  rw [hq, bytesOf_strOf _ hhb, unhexL_hexL _ hb.byte] at y3
  refine ⟨⟨x.s, y.G⟩, rfl, Sub.refl _, by show x.s.size ≤ 1000000; omega, fun z hz => ?_⟩
  obtain ⟨z1, z2, z3, z4⟩ := (hz : MayOk y.G (unhexL (bytesOf x.s)) z)
  refine ⟨⟨x.s, z.G⟩, rfl, Sub.refl _, by show x.s.size ≤ 1000000; omega, fun u hu => ?_⟩
  obtain ⟨u1, u2, u3, u4⟩ := (hu : MayOk z.G (unhexL (bytesOf x.s)) u)
  have hG : Sub x.G u.G := (y1.trans z1).trans u1
  have hbu := hb.mono hG
  refine ⟨⟨x.p, x.l, x.c, x.d, u.G⟩, rfl, rfl, rfl, Sub.refl _, ⟨hbu, by show x.l ≤ 1000000; omega⟩, fun q1 hq1 => ?_⟩
  refine ⟨⟨x.p, x.l, x.c, x.d, u.G⟩, rfl, rfl, rfl, Sub.refl _, ⟨hbu, by show x.l ≤ 1000000; omega⟩, fun q2 hq2 => ?_⟩
  have hq12 : q1 = q2 := (hq1 : q1 = strOf (hexL x.d)).trans (hq2 : q2 = strOf (hexL x.d)).symm
  refine ⟨fun _ => ⟨fun hok => ?_, fun hok => ?_⟩, fun h => by rw [toList_true hq12] at h; cases h⟩
  · rw [hok] at y3
    simp only [cond_true, Option.some.injEq] at y3
    have yb : Bs u.G y.p y.l y.c y.d := y2.mono (z1.trans u1)
    have hyl : y.l ≤ 1000000 := by have := yb.len; rw [← y3, hb.len] at this; omega
    refine ⟨⟨y.p, y.l, y.c, y.d, x.p, x.l, x.c, x.d, u.G⟩, rfl, rfl, rfl, rfl, rfl, rfl, Sub.refl _, ⟨yb, hbu, hyl⟩, fun t ht => ?_⟩
    have ht : t = decide (y.d = x.d) := ht
    rw [← y3, decide_eq_true rfl] at ht
    refine ⟨fun _ => ?_, fun h => by rw [ht] at h; cases h⟩
    have hok2 : z.ok = u.ok ∧ z.d = u.d := by
      cases hz' : z.ok <;> cases hu' : u.ok <;> rw [hz'] at z3 <;> rw [hu'] at u3 <;> simp only [cond_true, cond_false] at z3 u3 <;> rw [z3] at u3 <;> first | cases u3 | skip
      · exact ⟨rfl, by rw [z4 hz', u4 hu']⟩
      · exact ⟨rfl, Option.some.inj u3⟩
    refine ⟨fun _ => ?_, fun h => by simp [hok2.1] at h⟩
    have zb : Bs u.G z.p z.l z.c z.d := z2.mono u1
    have hzl : z.l ≤ 1000000 := by
      rw [← zb.len]
      cases hz' : z.ok
      · rw [z4 hz']; simp
      · rw [hz'] at z3
        simp only [cond_true] at z3
        have := unhexL_len _ _ z3
        rw [bytesOf_length] at this
        omega
    refine ⟨⟨z.p, z.l, z.c, z.d, u.p, u.l, u.c, u.d, u.G⟩, rfl, rfl, rfl, rfl, rfl, rfl, Sub.refl _, ⟨zb, u2, hzl⟩, fun t2 ht2 => ?_⟩
    have ht2 : t2 = decide (z.d = u.d) := ht2
    rw [decide_eq_true hok2.2] at ht2
    refine ⟨fun _ => ?_, fun h => by rw [ht2] at h; cases h⟩
    refine ⟨⟨x.s, u.G⟩, rfl, Sub.refl _, hs, fun m hm => ⟨⟨x.s, u.G⟩, rfl, Sub.refl _, hs, fun n hn => ⟨u.G, hG, ?_, Sub.refl _, trivial⟩⟩⟩
    have e : m = n := (hm : m = sumS (bytesOf x.s)).trans (hn : n = sumS (bytesOf x.s)).symm
    rw [e]; simp
  · rw [hok] at y3; cases y3
theorem spec7 : SpecOk Tryz.prog 7 conLaw7.spec := con_of law7_ex

theorem plainL_ne {c : Int} (r : List Int) (h : c ≠ 125) : plainL (c :: r) = (plainL r).map (c :: ·) := by
  rw [plainL]
  exact h
theorem plain_ok : conPlain.Vc body74 := by
  rw [plain_vc]
  intro x hx
  have hx : x.s.size ≤ 10000 := hx
  have hL := bytesOf_length x.s
  refine ⟨x, ⟨0, [], []⟩, rfl, rfl, rfl, rfl, rfl, rfl, rfl, rfl, Sub.refl _, ⟨Nat.zero_le _, hx, Nat.le_refl _, ?_⟩, fun z hz d => ?_⟩
  · show plainL (bytesOf x.s) = (plainL ((bytesOf x.s).drop 0)).map ([] ++ ·)
    rw [List.drop_zero]
    cases plainL (bytesOf x.s) <;> rfl
  obtain ⟨h1, _, h3, h4⟩ := (hz : z.i ≤ x.s.size ∧ x.s.size ≤ 10000 ∧ z.xs.length ≤ z.i ∧ plainL (bytesOf x.s) = (plainL ((bytesOf x.s).drop z.i)).map (z.xs ++ ·))
  have at_ : ∀ i : Nat, i < x.s.size → (bytesOf x.s).drop i = byteAt x.s (i : Int) :: (bytesOf x.s).drop (i + 1) := fun i hi => by
    obtain ⟨hl, e⟩ := bytesOf_at x.s i hi
    rw [e, List.getElem_cons_drop]
  refine ⟨fun hlt => ?_, fun hge => ?_⟩
  · have hlt := of_decide_eq_true hlt
    have e0 := at_ z.i (by omega)
    refine ok_ (by omega) ⟨fun hk r hr => ?_, fun hk => ?_⟩
    · have hk := eq_b hk
      rw [w64 _ (by omega) (by omega)] at hr
      refine ⟨fun he => ⟨none, ?_, rfl, rfl, Sub.refl _, trivial⟩, fun hne => ok_ (by have := ne_b hne; omega) fun r1 hr1 => ?_⟩
      · have he := eq_b he
        show none = (plainL (bytesOf x.s)).map strOf
        rw [h4, e0, hk, List.drop_of_length_le (by omega)]
        rfl
      · have hne := ne_b hne
        have er : r = ((z.i + 1 : Nat) : Int) := by omega
        subst er
        have hb := byteAt_byte x.s (z.i + 1) (by omega)
        rw [xor32 hb] at hr1
        refine ok_ (by omega) (ok_ (by omega) (ok_ rfl (ok_ (by omega) (ok_ (by omega) fun c vs hc hvs hone r2 hr2 => ?_))))
        rw [w64 _ (by omega) (by omega)] at hr2
        refine ⟨⟨z.i + 2, z.xs ++ [r1], vs⟩, ⟨by show z.i + 2 ≤ x.s.size; omega, hx, by show (z.xs ++ [r1]).length ≤ z.i + 2; simp; omega, ?_⟩, ?_, rfl, ?_, ?_, ?_, rfl, ?_, rfl, hvs, Sub.refl _, trivial⟩
        · show plainL (bytesOf x.s) = (plainL ((bytesOf x.s).drop (z.i + 2))).map (z.xs ++ [r1] ++ ·)
          rw [h4, e0, hk, at_ (z.i + 1) (by omega), hr1]
          simp only [plainL, Option.map_map]
          congr 1
          funext l
          simp
        · show x.s.size - (z.i + 2) < x.s.size - z.i; omega
        · simp
        · simp [hvs]; omega
        · show ((z.i + 2 : Nat) : Int) = r2; omega
        · simp
    · have hk := ne_b hk
      refine ok_ (by omega) (ok_ (by omega) (ok_ rfl (ok_ (by omega) (ok_ (by omega) fun c vs hc hvs hone r2 hr2 => ?_))))
      rw [w64 _ (by omega) (by omega)] at hr2
      refine ⟨⟨z.i + 1, z.xs ++ [byteAt x.s (z.i : Int)], vs⟩, ⟨by show z.i + 1 ≤ x.s.size; omega, hx, by show (z.xs ++ [byteAt x.s (z.i : Int)]).length ≤ z.i + 1; simp; omega, ?_⟩, ?_, rfl, ?_, ?_, ?_, rfl, ?_, rfl, hvs, Sub.refl _, trivial⟩
      · show plainL (bytesOf x.s) = (plainL ((bytesOf x.s).drop (z.i + 1))).map (z.xs ++ [byteAt x.s (z.i : Int)] ++ ·)
        rw [h4, e0]
        have := plainL_ne ((bytesOf x.s).drop (z.i + 1)) hk
        rw [this, Option.map_map]
        congr 1
        funext l
        simp
      · show x.s.size - (z.i + 1) < x.s.size - z.i; omega
      · simp
      · simp [hvs]; omega
      · show ((z.i + 1 : Nat) : Int) = r2; omega
      · simp
  · have hge := of_decide_eq_false hge
    refine ok_ (by omega) fun ys hys r hr => ⟨some (strOf z.xs), ?_, ?_, rfl, Sub.refl _, trivial⟩
    · show some (strOf z.xs) = (plainL (bytesOf x.s)).map strOf
      rw [h4, List.drop_of_length_le (by omega)]
      simp [plainL]
    · rw [hr, hys, List.drop_zero, List.take_length, List.append_nil]; rfl
theorem spec74 : SpecOk Tryz.prog 74 conPlain.spec :=
  Con.sound (body_ok (fun f => noSpec_ok _ f) (fun _ => (famL_ok plainLoop _).ok) (fun vs w => Tryz.call74 vs w)) plain_ok
end Sw
end
