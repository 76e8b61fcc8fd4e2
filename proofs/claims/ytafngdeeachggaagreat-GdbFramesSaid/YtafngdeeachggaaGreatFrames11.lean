/- What this text proves, part by part: The law GdbHex comes to true; gdb.plain does what is said. gdb.Unframe, and the law GdbFrames. What GdUnf's conditions come to, word for word: made by a program. gdb.Unframe does what is said; the law GdbFrames comes to true. No condition is added. -/
import Derived.Test.YtafngdeeachggaaGreatFrames01
import Derived.Test.YtafngdeeachggaaGreatFrames02
import Derived.Test.YtafngdeeachggaaGreatFrames03
import Derived.Test.YtafngdeeachggaaGreatFrames04
import Derived.Test.YtafngdeeachggaaGreatFrames05
import Derived.Test.YtafngdeeachggaaGreatFrames06
import Derived.Test.YtafngdeeachggaaGreatFrames07
import Derived.Test.YtafngdeeachggaaGreatFrames08
import Derived.Test.YtafngdeeachggaaGreatFrames09
import Derived.Test.YtafngdeeachggaaGreatFrames10
set_option linter.unusedVariables false
set_option linter.unusedSimpArgs false
section
/- The law GdbHex comes to true; gdb.plain does what is said. -/
namespace Sw
set_option maxRecDepth 100000
open Go Go.Proofs Vx

theorem hexV_hexD {n : Int} (h0 : 0 ≤ n) (h1 : n < 16) : hexV (hexD n) = some n := by
  unfold hexD hexV
  repeat' split
  all_goals first | (exfalso; omega) | (congr 1; omega)
theorem unhexL_hexL : ∀ l : List Int, (∀ b ∈ l, IsByte b) → unhexL (hexL l) = some l
  | [], _ => rfl
  | b :: r, h => by
    obtain ⟨h0, h1⟩ := h b List.mem_cons_self
    have ih := unhexL_hexL r fun x hx => h x (List.mem_cons_of_mem _ hx)
    simp only [hexL, unhexL, hexV_hexD (show 0 ≤ b / 16 by omega) (by omega), hexV_hexD (show 0 ≤ b % 16 by omega) (by omega), ih]
    congr 2
    omega
theorem toList_true {a b : ByteArray} (h : a = b) : (a.toList == b.toList) = true := toList_eq h
theorem call7_ok (f : Nat) : SpecOk Tryz.prog f (call7 f) :=
  pick1 spec25 <| pick1 spec27 <| pick1 spec29 <| pick1 spec26 <| pick1 spec28 <| pick1 spec13G <| pick1 spec30 <| pick1 spec31 <| noSpec_ok _ f
theorem body_okA7 : SpecOk Tryz.prog 7 body7 := body_ok call7_ok (iter_ways 0) (fun vs w => Tryz.call7 vs w)
theorem law7_ex : ∃ T, SpecOk Tryz.prog 7 T ∧ conLaw7.Vc T := by
  refine ⟨body7, body_okA7, ?_⟩
  rw [law7_vc]
  intro x hx
  obtain ⟨hb, hl, hs⟩ := (hx : Bs x.G x.p x.l x.c x.d ∧ x.l < 9223372036854775808 ∧ x.s.size < 9223372036854775808)
  refine ⟨⟨x.G⟩, Sub.refl _, trivial, fun _ _ => ⟨fun _ => ⟨x.G, Sub.refl _, rfl, Sub.refl _, trivial⟩, fun h1 => ⟨fun _ => ⟨x.G, Sub.refl _, rfl, Sub.refl _, trivial⟩, fun h2 => ?_⟩⟩⟩
  have h1 := of_decide_eq_false h1
  have h2 := of_decide_eq_false h2
  have hl3 : x.l ≤ 300 := by omega
  have hs3 : x.s.size ≤ 300 := by omega
  have hhb := hexL_byte x.d hb.byte
  refine ⟨⟨x.p, x.l, x.c, x.d, x.G⟩, rfl, rfl, rfl, Sub.refl _, ⟨hb, by show x.l ≤ 1000000; omega⟩, fun q hq => ?_⟩
  have hq : q = strOf (hexL x.d) := hq
  refine ⟨⟨q, x.G⟩, rfl, Sub.refl _, ?_, fun y hy => ?_⟩
  · show q.size ≤ 1000000
    rw [hq, strOf_len, hexL_len, hb.len]; omega
  obtain ⟨y1, y2, y3, y4⟩ := (hy : MayOk x.G (unhexL (bytesOf q)) y)
  rw [hq, bytesOf_strOf _ hhb, unhexL_hexL _ hb.byte] at y3
  refine ⟨⟨x.s, y.G⟩, rfl, Sub.refl _, by show x.s.size ≤ 1000000; omega, fun z hz => ?_⟩
  obtain ⟨z1, z2, z3, z4⟩ := (hz : MayOk y.G (unhexL (bytesOf x.s)) z)
  refine ⟨⟨x.s, z.G⟩, rfl, Sub.refl _, by show x.s.size ≤ 1000000; omega, fun u hu => ?_⟩
  obtain ⟨u1, u2, u3, u4⟩ := (hu : MayOk z.G (unhexL (bytesOf x.s)) u)
  have hG : Sub x.G u.G := (y1.trans z1).trans u1
  have hbu := hb.mono hG
  refine ⟨⟨x.p, x.l, x.c, x.d, u.G⟩, rfl, rfl, rfl, Sub.refl _, ⟨hbu, by show x.l ≤ 1000000; omega⟩, fun q1 hq1 => ?_⟩
  refine ⟨⟨x.p, x.l, x.c, x.d, u.G⟩, rfl, rfl, rfl, Sub.refl _, ⟨hbu, by show x.l ≤ 1000000; omega⟩, fun q2 hq2 => ?_⟩
  have hq12 : q1 = q2 := (hq1 : q1 = strOf (hexL x.d)).trans (hq2 : q2 = strOf (hexL x.d)).symm
  refine ⟨fun _ => ⟨fun hok => ?_, fun hok => ?_⟩, fun h => by rw [toList_true hq12] at h; cases h⟩
  · rw [hok] at y3
    simp only [cond_true, Option.some.injEq] at y3
    have yb : Bs u.G y.p y.l y.c y.d := y2.mono (z1.trans u1)
    have hyl : y.l ≤ 1000000 := by have := yb.len; rw [← y3, hb.len] at this; omega
    refine ⟨⟨y.p, y.l, y.c, y.d, x.p, x.l, x.c, x.d, u.G⟩, rfl, rfl, rfl, rfl, rfl, rfl, Sub.refl _, ⟨yb, hbu, hyl⟩, fun t ht => ?_⟩
    have ht : t = decide (y.d = x.d) := ht
    rw [← y3, decide_eq_true rfl] at ht
    refine ⟨fun _ => ?_, fun h => by rw [ht] at h; cases h⟩
    have hok2 : z.ok = u.ok ∧ z.d = u.d := by
      cases hz' : z.ok <;> cases hu' : u.ok <;> rw [hz'] at z3 <;> rw [hu'] at u3 <;> simp only [cond_true, cond_false] at z3 u3 <;> rw [z3] at u3 <;> first | cases u3 | skip
      · exact ⟨rfl, by rw [z4 hz', u4 hu']⟩
      · exact ⟨rfl, Option.some.inj u3⟩
    refine ⟨fun _ => ?_, fun h => by simp [hok2.1] at h⟩
    have zb : Bs u.G z.p z.l z.c z.d := z2.mono u1
    have hzl : z.l ≤ 1000000 := by
      rw [← zb.len]
      cases hz' : z.ok
      · rw [z4 hz']; simp
      · rw [hz'] at z3
        simp only [cond_true] at z3
        have := unhexL_len _ _ z3
        rw [bytesOf_length] at this
        omega
    refine ⟨⟨z.p, z.l, z.c, z.d, u.p, u.l, u.c, u.d, u.G⟩, rfl, rfl, rfl, rfl, rfl, rfl, Sub.refl _, ⟨zb, u2, hzl⟩, fun t2 ht2 => ?_⟩
    have ht2 : t2 = decide (z.d = u.d) := ht2
    rw [decide_eq_true hok2.2] at ht2
    refine ⟨fun _ => ?_, fun h => by rw [ht2] at h; cases h⟩
    refine ⟨⟨x.s, u.G⟩, rfl, Sub.refl _, hs, fun m hm => ⟨⟨x.s, u.G⟩, rfl, Sub.refl _, hs, fun n hn => ⟨u.G, hG, ?_, Sub.refl _, trivial⟩⟩⟩
    have e : m = n := (hm : m = sumS (bytesOf x.s)).trans (hn : n = sumS (bytesOf x.s)).symm
    rw [e]; simp
  · rw [hok] at y3; cases y3
theorem spec7 : SpecOk Tryz.prog 7 conLaw7.spec := con_of law7_ex

theorem plainL_ne {c : Int} (r : List Int) (h : c ≠ 125) : plainL (c :: r) = (plainL r).map (c :: ·) := by
  rw [plainL]
  exact h
theorem plain_ok : conPlain.Vc body74 := by
  rw [plain_vc]
  intro x hx
  have hx : x.s.size ≤ 10000 := hx
  have hL := bytesOf_length x.s
  refine ⟨x, ⟨0, [], []⟩, rfl, rfl, rfl, rfl, rfl, rfl, rfl, rfl, Sub.refl _, ⟨Nat.zero_le _, hx, Nat.le_refl _, ?_⟩, fun z hz d => ?_⟩
  · show plainL (bytesOf x.s) = (plainL ((bytesOf x.s).drop 0)).map ([] ++ ·)
    rw [List.drop_zero]
    cases plainL (bytesOf x.s) <;> rfl
  obtain ⟨h1, _, h3, h4⟩ := (hz : z.i ≤ x.s.size ∧ x.s.size ≤ 10000 ∧ z.xs.length ≤ z.i ∧ plainL (bytesOf x.s) = (plainL ((bytesOf x.s).drop z.i)).map (z.xs ++ ·))
  have at_ : ∀ i : Nat, i < x.s.size → (bytesOf x.s).drop i = byteAt x.s (i : Int) :: (bytesOf x.s).drop (i + 1) := fun i hi => by
    obtain ⟨hl, e⟩ := bytesOf_at x.s i hi
    rw [e, List.getElem_cons_drop]
  refine ⟨fun hlt => ?_, fun hge => ?_⟩
  · have hlt := of_decide_eq_true hlt
    have e0 := at_ z.i (by omega)
    refine ok_ (by omega) ⟨fun hk r hr => ?_, fun hk => ?_⟩
    · have hk := eq_b hk
      rw [w64 _ (by omega) (by omega)] at hr
      refine ⟨fun he => ⟨none, ?_, rfl, rfl, Sub.refl _, trivial⟩, fun hne => ok_ (by have := ne_b hne; omega) fun r1 hr1 => ?_⟩
      · have he := eq_b he
        show none = (plainL (bytesOf x.s)).map strOf
        rw [h4, e0, hk, List.drop_of_length_le (by omega)]
        rfl
      · have hne := ne_b hne
        have er : r = ((z.i + 1 : Nat) : Int) := by omega
        subst er
        have hb := byteAt_byte x.s (z.i + 1) (by omega)
        rw [xor32 hb] at hr1
        refine ok_ (by omega) (ok_ (by omega) (ok_ rfl (ok_ (by omega) (ok_ (by omega) fun c vs hc hvs hone r2 hr2 => ?_))))
        rw [w64 _ (by omega) (by omega)] at hr2
        refine ⟨⟨z.i + 2, z.xs ++ [r1], vs⟩, ⟨by show z.i + 2 ≤ x.s.size; omega, hx, by show (z.xs ++ [r1]).length ≤ z.i + 2; simp; omega, ?_⟩, ?_, rfl, ?_, ?_, ?_, rfl, ?_, rfl, hvs, Sub.refl _, trivial⟩
        · show plainL (bytesOf x.s) = (plainL ((bytesOf x.s).drop (z.i + 2))).map (z.xs ++ [r1] ++ ·)
          rw [h4, e0, hk, at_ (z.i + 1) (by omega), hr1]
          simp only [plainL, Option.map_map]
          congr 1
          funext l
          simp
        · show x.s.size - (z.i + 2) < x.s.size - z.i; omega
        · simp
        · simp [hvs]; omega
        · show ((z.i + 2 : Nat) : Int) = r2; omega
        · simp
    · have hk := ne_b hk
      refine ok_ (by omega) (ok_ (by omega) (ok_ rfl (ok_ (by omega) (ok_ (by omega) fun c vs hc hvs hone r2 hr2 => ?_))))
      rw [w64 _ (by omega) (by omega)] at hr2
      refine ⟨⟨z.i + 1, z.xs ++ [byteAt x.s (z.i : Int)], vs⟩, ⟨by show z.i + 1 ≤ x.s.size; omega, hx, by show (z.xs ++ [byteAt x.s (z.i : Int)]).length ≤ z.i + 1; simp; omega, ?_⟩, ?_, rfl, ?_, ?_, ?_, rfl, ?_, rfl, hvs, Sub.refl _, trivial⟩
      · show plainL (bytesOf x.s) = (plainL ((bytesOf x.s).drop (z.i + 1))).map (z.xs ++ [byteAt x.s (z.i : Int)] ++ ·)
        rw [h4, e0]
        have := plainL_ne ((bytesOf x.s).drop (z.i + 1)) hk
        rw [this, Option.map_map]
        congr 1
        funext l
        simp
      · show x.s.size - (z.i + 1) < x.s.size - z.i; omega
      · simp
      · simp [hvs]; omega
      · show ((z.i + 1 : Nat) : Int) = r2; omega
      · simp
  · have hge := of_decide_eq_false hge
    refine ok_ (by omega) fun ys hys r hr => ⟨some (strOf z.xs), ?_, ?_, rfl, Sub.refl _, trivial⟩
    · show some (strOf z.xs) = (plainL (bytesOf x.s)).map strOf
      rw [h4, List.drop_of_length_le (by omega)]
      simp [plainL]
    · rw [hr, hys, List.drop_zero, List.take_length, List.append_nil]; rfl
theorem spec74 : SpecOk Tryz.prog 74 conPlain.spec :=
  Con.sound (body_ok (fun f => noSpec_ok _ f) (fun _ => (famL_ok plainLoop _).ok) (fun vs w => Tryz.call74 vs w)) plain_ok
end Sw
end
section
/- gdb.Unframe, and the law GdbFrames. -/
namespace Sw
set_option maxRecDepth 100000
open Go Go.Proofs Vx

/-- Where a number stands in a list. -/
def idxL (c : Int) : List Int → Option Nat
  | [] => none
  | x :: r => if x = c then some 0 else (idxL c r).map (· + 1)
/-- A packet's data, and what is behind it. -/
def unframeL (l : List Int) : Option (List Int × List Int) :=
  match idxL 36 l with
  | none => none
  | some i => (match idxL 35 (l.drop (i + 1)) with
    | none => none
    | some n =>
      if (l.drop (i + 1)).length < n + 3 ∨ 4096 < n then none else
      (match unhexL (((l.drop (i + 1)).take (n + 3)).drop (n + 1)) with
        | none => none
        | some h => if h = [sumS ((l.drop (i + 1)).take n)] then (match plainL ((l.drop (i + 1)).take n) with
          | none => none
          | some d => some (d, (l.drop (i + 1)).drop (n + 3))) else none))
structure UnfY where
  a : ByteArray
  b : ByteArray
  ok : Bool
  G : Nat → Option Obj
def conUnf : Con where
  X := StrX
  n := 0
  args x := [.str (.v x.s)]
  heap _ := []
  G x := x.G
  pre x := x.s.size ≤ 10000
  Y := UnfY
  m := 0
  post x y := Sub x.G y.G ∧ ∀ d r, unframeL (bytesOf x.s) = some (d, r) → y.ok = true ∧ y.a = strOf d ∧ y.b = strOf r
  res _ y := .tup (.cons (.str (.v y.a)) (.cons (.str (.v y.b)) (.cons (.bool (.v y.ok)) .nil)))
  heap' _ _ := []
  G' _ y := y.G
def inl73 (f : Nat) : Bool := Nat.beq f 73 || Nat.beq f 105 || Nat.beq f 35
noncomputable def call35 (f : Nat) : SpecT :=
  bif Nat.beq f 130 then ext130 else
  bif Nat.beq f 26 then conUnhex.spec else
  bif Nat.beq f 30 then conSumS.spec else
  bif Nat.beq f 74 then conPlain.spec else noSpec
noncomputable def body35 : SpecT := callD C0 call35 (fun _ => { loop := fun _ bx => iter bx 0 }) inl73 4 35
structure Law9X where
  s : ByteArray
  a : ByteArray
  b : ByteArray
  G : Nat → Option Obj
def Law9Pre (x : Law9X) : Prop := x.s.size < 9223372036854775808 ∧ x.a.size < 9223372036854775808 ∧ x.b.size < 9223372036854775808
def conLaw9 : Con where
  X := Law9X
  n := 0
  args x := [.str (.v x.s), .str (.v x.a), .str (.v x.b)]
  heap _ := []
  G x := x.G
  pre x := Law9Pre x
  Y := Nat → Option Obj
  m := 0
  post x y := Sub x.G y
  res _ _ := .bool (.v true)
  heap' _ _ := []
  G' _ y := y
structure L9G where
  x : Law9X
  f : ByteArray
structure L9I where
  i : Nat
def law9Loop (g : L9G) : LoopS where
  X := L9I
  f := 0
  m := 0
  tmps z := [(0, .str (.v g.x.s)), (1, .str (.v g.x.a)), (2, .str (.v g.x.b)), (7, .str (.v g.f)), (8, .int .i64 (.v z.i))]
  heap _ := []
  G _ := g.x.G
  inv z := z.i ≤ g.x.a.size ∧ (g.x.s.size ≤ 600 ∧ g.x.a.size ≤ 100 ∧ g.x.b.size ≤ 100) ∧ g.f = strOf (frameL (bytesOf g.x.s)) ∧ ∀ j, j < z.i → (bytesOf g.x.a).getD j 0 ≠ 36
  mea z := g.x.a.size - z.i
noncomputable def call9 (f : Nat) : SpecT :=
  bif Nat.beq f 25 then conAw29.spec else
  bif Nat.beq f 33 then conFrame.spec else
  bif Nat.beq f 34 then conFrame.spec else
  bif Nat.beq f 35 then conUnf.spec else noSpec
noncomputable def body9 : SpecT := body call9 (fun _ => famL law9Loop) 9
end Sw
end
section
/- What GdUnf's conditions come to, word for word: made by a program. -/
set_option maxRecDepth 100000
set_option linter.unusedVariables false
namespace Sw
open Go Go.Proofs Vx
theorem unf_vc : (conUnf.Vc body35) = (
∀ (x : Sw.StrX), Sw.conUnf.pre x →
 ∀ (r : Int), r = Sw.idxB x.s (36 : Int) →
 (Decidable.decide (r < (0 : Int)) = Bool.true →
 ∃ (y : Sw.UnfY), Sw.conUnf.post x y ∧ y.a = ByteArray.mk #[] ∧ y.b = ByteArray.mk #[] ∧ y.ok = Bool.false ∧ Vx.Sub (Sw.conUnf.G' x y) x.G ∧ True) ∧
 (Decidable.decide (r < (0 : Int)) = Bool.false →
 ∀ (r_1 : Int), r_1 = Go.IntKind.i64.wrap (r + (1 : Int)) →
 ((0 : Int) ≤ r_1 ∧ r_1 ≤ (↑x.s.size : Int)) ∧
 ((0 : Int) ≤ r_1 ∧ r_1 ≤ (↑x.s.size : Int) →
 ∀ (r : ByteArray), r = x.s.extract r_1.toNat x.s.size →
 ∀ (r_2 : Int), r_2 = Sw.idxB r (35 : Int) →
 (Decidable.decide (r_2 < (0 : Int)) = Bool.true →
 ∃ (y : Sw.UnfY), Sw.conUnf.post x y ∧
 y.a = ByteArray.mk #[] ∧ y.b = ByteArray.mk #[] ∧ y.ok = Bool.false ∧ Vx.Sub (Sw.conUnf.G' x y) x.G ∧ True) ∧
 (Decidable.decide (r_2 < (0 : Int)) = Bool.false →
 ∀ (r_3 : Int), r_3 = Go.IntKind.i64.wrap (r_2 + (3 : Int)) →
 (Decidable.decide ((↑r.size : Int) < r_3) = Bool.true →
 ∃ (y : Sw.UnfY), Sw.conUnf.post x y ∧
 y.a = ByteArray.mk #[] ∧ y.b = ByteArray.mk #[] ∧ y.ok = Bool.false ∧ Vx.Sub (Sw.conUnf.G' x y) x.G ∧ True) ∧
 (Decidable.decide ((↑r.size : Int) < r_3) = Bool.false →
 (Decidable.decide (r_2 > (4096 : Int)) = Bool.true →
 ∃ (y : Sw.UnfY), Sw.conUnf.post x y ∧
 y.a = ByteArray.mk #[] ∧ y.b = ByteArray.mk #[] ∧ y.ok = Bool.false ∧ Vx.Sub (Sw.conUnf.G' x y) x.G ∧ True) ∧
 (Decidable.decide (r_2 > (4096 : Int)) = Bool.false →
 ∀ (r_4 : Int), r_4 = Go.IntKind.i64.wrap (r_2 + (1 : Int)) →
 ∀ (r_5 : Int), r_5 = Go.IntKind.i64.wrap (r_2 + (3 : Int)) →
 ((0 : Int) ≤ r_5 ∧ r_5 ≤ (↑r.size : Int)) ∧
 ((0 : Int) ≤ r_5 ∧ r_5 ≤ (↑r.size : Int) →
 ((0 : Int) ≤ r_4 ∧ r_4 ≤ (↑r_5.toNat : Int)) ∧
 ((0 : Int) ≤ r_4 ∧ r_4 ≤ (↑r_5.toNat : Int) →
 ∀ (r_6 : ByteArray), r_6 = r.extract r_4.toNat r_5.toNat →
 ∃ (x_1 : Sw.StrX), x_1.s = r_6 ∧
 Vx.Sub (Sw.conUnhex.G x_1) x.G ∧
 Sw.conUnhex.pre x_1 ∧
 ∀ (y : Sw.MayY), Sw.conUnhex.post x_1 y →
 ((!y.ok) = Bool.true →
 ∃ (y_1 : Sw.UnfY), Sw.conUnf.post x y_1 ∧
 y_1.a = ByteArray.mk #[] ∧
 y_1.b = ByteArray.mk #[] ∧
 y_1.ok = Bool.false ∧ Vx.Sub (Sw.conUnf.G' x y_1) y.G ∧ True) ∧
 ((!y.ok) = Bool.false →
 ((0 : Int) ≤ (0 : Int) ∧ (0 : Int) < (↑y.l : Int)) ∧
 ((0 : Int) ≤ (0 : Int) ∧ (0 : Int) < (↑y.l : Int) →
 ∃ (b : Nat), ∃ (o : Nat), y.p = Option.some (Go.Addr.mk b o Option.none) ∧
 ((0 : Int) ≤ r_2 ∧ r_2 ≤ (↑r.size : Int)) ∧
 ((0 : Int) ≤ r_2 ∧ r_2 ≤ (↑r.size : Int) →
 ∀ (r_7 : ByteArray), r_7 = r.extract (0 : Nat) r_2.toNat →
 ∃ (x_2 : Int), Vx.Rd y.G b (o + (0 : Nat))
 [Go.Value.int Go.IntKind.u8 x_2] ∧
 ∃ (x_3 : Sw.StrX), x_3.s = r_7 ∧
 Vx.Sub (Sw.conSumS.G x_3) y.G ∧
 Sw.conSumS.pre x_3 ∧
 ∀ (y : Int), Sw.conSumS.post x_3 y →
 ∃ (x_4 : Int), Vx.Rd x_3.G b (o + (0 : Nat))
 [Go.Value.int Go.IntKind.u8 x_4] ∧
 x_4 = x_2 ∧
 ((x_2 != y) = Bool.true →
 ∃ (y : Sw.UnfY), Sw.conUnf.post x y ∧
 y.a = ByteArray.mk #[] ∧
 y.b = ByteArray.mk #[] ∧
 y.ok = Bool.false ∧
 Vx.Sub (Sw.conUnf.G' x y)
 x_3.G ∧
 True) ∧
 ((x_2 != y) = Bool.false →
 ((0 : Int) ≤ r_2 ∧
 r_2 ≤ (↑r.size : Int)) ∧
 ((0 : Int) ≤ r_2 ∧
 r_2 ≤ (↑r.size : Int) →
 ∀ (r_8 : ByteArray), r_8 =
 r.extract (0 : Nat)
 r_2.toNat →
 ∃ (x_5 : Sw.StrX), x_5.s = r_8 ∧
 Vx.Sub
 (Sw.conPlain.G x_5)
 x_3.G ∧
 Sw.conPlain.pre x_5 ∧
 ∀
 (y :
 Option
 ByteArray), Sw.conPlain.post
 x_5 y →
 ((!y.isSome) =
 Bool.true →
 ∃ (y :
 Sw.UnfY), Sw.conUnf.post
 x y ∧
 y.a =
 ByteArray.mk
 #[] ∧
 y.b =
 ByteArray.mk
 #[] ∧
 y.ok =
 Bool.false ∧
 Vx.Sub
 (Sw.conUnf.G'
 x
 y)
 x_5.G ∧
 True) ∧
 ((!y.isSome) =
 Bool.false →
 ∀
 (r_9 :
 Int), r_9 =
 Go.IntKind.i64.wrap
 (r_2 +
 (3 :
 Int)) →
 ((0 :
 Int) ≤
 r_9 ∧
 r_9 ≤
 (↑r.size :
 Int)) ∧
 ((0 :
 Int) ≤
 r_9 ∧
 r_9 ≤
 (↑r.size :
 Int) →
 ∀
 (r_10 :
 ByteArray), r_10 =
 r.extract
 r_9.toNat
 r.size →
 ∃
 (y_1
 :
 Sw.UnfY), Sw.conUnf.post
 x
 y_1 ∧
 y_1.a =
 y.getD
 ByteArray.empty ∧
 y_1.b =
 r_10 ∧
 y_1.ok =
 Bool.true ∧
 Vx.Sub
 (Sw.conUnf.G'
 x
 y_1)
 x_5.G ∧
 True))))))))))))))) := by kernel_rfl
theorem law9_vc : (conLaw9.Vc body9) = (
∀ (x : Sw.Law9X), Sw.conLaw9.pre x →
 ∃ (x_1 : Sw.GOnly), Vx.Sub (Sw.conAw29.G x_1) x.G ∧
 Sw.conAw29.pre x_1 ∧
 ∀ (y : PUnit), Sw.conAw29.post x_1 y →
 (Decidable.decide ((↑x.s.size : Int) > (600 : Int)) = Bool.true →
 ∃ (y : Nat → Option Go.Obj), Sw.conLaw9.post x y ∧ Bool.true = Bool.true ∧ Vx.Sub (Sw.conLaw9.G' x y) x_1.G ∧ True) ∧
 (Decidable.decide ((↑x.s.size : Int) > (600 : Int)) = Bool.false →
 (Decidable.decide ((↑x.a.size : Int) > (100 : Int)) = Bool.true →
 ∃ (y : Nat → Option Go.Obj), Sw.conLaw9.post x y ∧ Bool.true = Bool.true ∧ Vx.Sub (Sw.conLaw9.G' x y) x_1.G ∧ True) ∧
 (Decidable.decide ((↑x.a.size : Int) > (100 : Int)) = Bool.false →
 (Decidable.decide ((↑x.b.size : Int) > (100 : Int)) = Bool.true →
 ∃ (y : Nat → Option Go.Obj), Sw.conLaw9.post x y ∧ Bool.true = Bool.true ∧ Vx.Sub (Sw.conLaw9.G' x y) x_1.G ∧ True) ∧
 (Decidable.decide ((↑x.b.size : Int) > (100 : Int)) = Bool.false →
 ∃ (x_2 : Sw.StrX), x_2.s = x.s ∧
 Vx.Sub (Sw.conFrame.G x_2) x_1.G ∧
 Sw.conFrame.pre x_2 ∧
 ∀ (y : ByteArray), Sw.conFrame.post x_2 y →
 ∃ (x_3 : Sw.StrX), x_3.s = x.s ∧
 Vx.Sub (Sw.conFrame.G x_3) x_2.G ∧
 Sw.conFrame.pre x_3 ∧
 ∀ (y_1 : ByteArray), Sw.conFrame.post x_3 y_1 →
 ((!y.toList == y_1.toList) = Bool.true →
 ∃ (y : Nat → Option Go.Obj), Sw.conLaw9.post x y ∧ Bool.true = Bool.false ∧ Vx.Sub (Sw.conLaw9.G' x y) x_3.G ∧ True) ∧
 ((!y.toList == y_1.toList) = Bool.false →
 ∃ (g : Sw.L9G), ∃ (x0 : Sw.L9I), g.x.s = x.s ∧
 g.x.a = x.a ∧
 g.x.b = x.b ∧
 g.f = y ∧
 (↑x0.i : Int) = (0 : Int) ∧
 Vx.Sub ((Sw.law9Loop g).G x0) x_3.G ∧
 (Sw.law9Loop g).inv x0 ∧
 ∀ (x_4 : Sw.L9I), (Sw.law9Loop g).inv x_4 →
 ∀ (d : Nat → Go.Value), (Decidable.decide ((↑x_4.i : Int) < (↑g.x.a.size : Int)) = Bool.true →
 ((0 : Int) ≤ (↑x_4.i : Int) ∧ (↑x_4.i : Int) < (↑g.x.a.size : Int)) ∧
 ((0 : Int) ≤ (↑x_4.i : Int) ∧ (↑x_4.i : Int) < (↑g.x.a.size : Int) →
 ((Vx.byteAt g.x.a (↑x_4.i : Int) == (36 : Int)) = Bool.true →
 ∃ (y : Nat → Option Go.Obj), Sw.conLaw9.post x y ∧
 Bool.true = Bool.true ∧ Vx.Sub (Sw.conLaw9.G' x y) g.x.G ∧ True) ∧
 ((Vx.byteAt g.x.a (↑x_4.i : Int) == (36 : Int)) = Bool.false →
 ∀ (r : Int), r = Go.IntKind.i64.wrap ((↑x_4.i : Int) + (1 : Int)) →
 ∃ (x' : Sw.L9I), (Sw.law9Loop g).inv x' ∧
 (Sw.law9Loop g).mea x' < (Sw.law9Loop g).mea x_4 ∧
 g.x.s = g.x.s ∧
 g.x.a = g.x.a ∧
 g.x.b = g.x.b ∧
 g.f = g.f ∧
 (↑x'.i : Int) = r ∧
 Vx.Sub ((Sw.law9Loop g).G x') g.x.G ∧ True))) ∧
 (Decidable.decide ((↑x_4.i : Int) < (↑g.x.a.size : Int)) = Bool.false →
 (↑(g.x.a.size + g.f.size) : Int) ≤ (9223372036854775807 : Int) ∧
 ∀ (r : ByteArray), r = g.x.a ++ g.f →
 (↑(r.size + g.x.b.size) : Int) ≤ (9223372036854775807 : Int) ∧
 ∀ (r_1 : ByteArray), r_1 = r ++ g.x.b →
 ∃ (x_5 : Sw.StrX), x_5.s = r_1 ∧
 Vx.Sub (Sw.conUnf.G x_5) g.x.G ∧
 Sw.conUnf.pre x_5 ∧
 ∀ (y : Sw.UnfY), Sw.conUnf.post x_5 y →
 (y.ok = Bool.true →
 ((y.a.toList == g.x.s.toList) = Bool.true →
 ∃ (y_2 : Nat → Option Go.Obj), Sw.conLaw9.post x y_2 ∧
 Bool.true = (y.b.toList == g.x.b.toList) ∧
 Vx.Sub (Sw.conLaw9.G' x y_2) y.G ∧
 True) ∧
 ((y.a.toList == g.x.s.toList) = Bool.false →
 ∃ (y_2 : Nat → Option Go.Obj), Sw.conLaw9.post x y_2 ∧
 Bool.true = Bool.false ∧
 Vx.Sub (Sw.conLaw9.G' x y_2) y.G ∧
 True)) ∧
 (y.ok = Bool.false →
 ∃ (y_2 : Nat → Option Go.Obj), Sw.conLaw9.post x y_2 ∧
 Bool.true = Bool.false ∧
 Vx.Sub (Sw.conLaw9.G' x y_2) y.G ∧
 True))))))) := by kernel_rfl
end Sw
end
section
/- gdb.Unframe does what is said; the law GdbFrames comes to true. -/
namespace Sw
set_option maxRecDepth 100000
open Go Go.Proofs Vx

theorem idx_eq (c : Int) (hc : IsByte c) : ∀ l : List UInt8, Go.Lib.indexByte l c.toNat.toUInt8 = (match idxL c (l.map fun b => (b.toNat : Int)) with
    | none => -1
    | some i => (i : Int))
  | [] => rfl
  | b :: r => by
    have ih := idx_eq c hc r
    obtain ⟨h0, h1⟩ := hc
    have hcn : c.toNat.toUInt8.toNat = c.toNat := by
      simp [Nat.toUInt8]; omega
    simp only [Go.Lib.indexByte, List.map_cons, idxL]
    by_cases h : b = c.toNat.toUInt8
    · subst h
      rw [hcn]
      have : ((c.toNat : Nat) : Int) = c := by omega
      simp [this]
    · have hne : (b.toNat : Int) ≠ c := fun e => h (by
        apply UInt8.toNat_inj.1
        rw [hcn]; omega)
      have hb : (b == c.toNat.toUInt8) = false := by simpa using h
      rw [hb, if_neg hne, ih]
      cases hl : idxL c (r.map fun b => (b.toNat : Int)) with
      | none => rfl
      | some i =>
        simp only [Option.map_some, Bool.false_eq_true, if_false]
        have : ((i : Int) == -1) = false := by simp
        rw [this]
        simp
theorem idxB_eq (s : ByteArray) (c : Int) (hc : IsByte c) : idxB s c = (match idxL c (bytesOf s) with
    | none => -1
    | some i => (i : Int)) := idx_eq c hc _
theorem idxL_lt {c : Int} : ∀ {l : List Int} {i : Nat}, idxL c l = some i → i < l.length
  | [], i, h => by cases h
  | x :: r, i, h => by
    simp only [idxL] at h
    split at h
    · cases h; simp
    · cases hr : idxL c r with
      | none => rw [hr] at h; cases h
      | some j =>
        rw [hr] at h
        simp only [Option.map_some, Option.some.injEq] at h
        have := idxL_lt hr
        simp only [List.length_cons]; omega
theorem b36 : IsByte 36 := ⟨by decide, by decide⟩
theorem b35 : IsByte 35 := ⟨by decide, by decide⟩
theorem ext_size (s : ByteArray) (a b : Nat) : (s.extract a b).size = min b s.size - a := by simp
theorem bytesOf_ext' (s : ByteArray) (a : Nat) : bytesOf (s.extract a s.size) = (bytesOf s).drop a := by
  rw [bytesOf_ext, List.take_of_length_le (by rw [bytesOf_length]; omega)]
theorem bytesOf_ext0 (s : ByteArray) (b : Nat) : bytesOf (s.extract 0 b) = (bytesOf s).take b := by rw [bytesOf_ext, List.drop_zero]
theorem call35_ok : CallOk Tryz.prog call35 := fun f =>
  pick_ok (.inr ext130_ok) <| pick_ok (.inl spec26) <| pick_ok (.inl spec30) <| pick_ok (.inl spec74) <| .inl (noSpec_ok _ f)
theorem inl73_ok (f : Nat) (h : inl73 f = true) (vs : Array Value) (w : World) : (callFunc f vs).run Tryz.prog w = .ok (.enter f vs) w := by
  simp only [inl73, Bool.or_eq_true] at h
  rcases h with (h | h) | h <;> (have := beq_t h; subst this)
  · exact Tryz.call73 vs w
  · exact Tryz.call105 vs w
  · exact Tryz.call35 vs w
theorem unf_ex : ∃ T, SpecOk Tryz.prog 35 T ∧ conUnf.Vc T := by
  refine ⟨body35, callD_spec c0_ok call35_ok (fun _ => ⟨fun _ => iter_ok _ 0, fun _ => PieceOk.id _⟩) inl73_ok 3 rfl, ?_⟩
  rw [unf_vc]
  intro x hx
  have hx : x.s.size ≤ 10000 := hx
  have hL := bytesOf_length x.s
  intro r hr
  rw [idxB_eq _ _ b36] at hr
  -- nothing of the kind
  have no : ∀ G : Nat → Option Obj, Sub x.G G → unframeL (bytesOf x.s) = none → ∃ (y : Sw.UnfY), Sw.conUnf.post x y ∧ y.a = ByteArray.mk #[] ∧ y.b = ByteArray.mk #[] ∧ y.ok = false ∧ Vx.Sub (Sw.conUnf.G' x y) G ∧ True := fun G hG h =>
    ⟨⟨_, _, _, G⟩, ⟨hG, fun d r h' => by rw [h] at h'; cases h'⟩, rfl, rfl, rfl, Sub.refl _, trivial⟩
  cases hi : idxL 36 (bytesOf x.s) with
  | none =>
    rw [hi] at hr
    have hr : r = -1 := hr
    exact ⟨fun _ => no _ (Sub.refl _) (by simp only [unframeL, hi]), fun h => by have := of_decide_eq_false h; omega⟩
  | some i =>
    rw [hi] at hr
    have hr : r = (i : Int) := hr
    have hil := idxL_lt hi
    refine ⟨fun h => by have := of_decide_eq_true h; omega, fun _ r1 hr1 => ?_⟩
    rw [w64 _ (by omega) (by omega)] at hr1
    refine ok_ (by omega) fun s1 hs1 r2 hr2 => ?_
    have e1 : r1.toNat = i + 1 := by omega
    rw [e1] at hs1
    have hb1 : bytesOf s1 = (bytesOf x.s).drop (i + 1) := by rw [hs1, bytesOf_ext']
    have hz1 : s1.size ≤ 10000 := by rw [hs1, ext_size]; omega
    have hL1 := bytesOf_length s1
    rw [idxB_eq _ _ b35] at hr2
    have hdl : ((bytesOf x.s).drop (i + 1)).length = s1.size := by rw [← hb1, hL1]
    cases hn : idxL 35 (bytesOf s1) with
    | none =>
      rw [hn] at hr2
      have hr2 : r2 = -1 := hr2
      exact ⟨fun _ => no _ (Sub.refl _) (by simp only [unframeL, hi]; rw [← hb1, hn]), fun h => by have := of_decide_eq_false h; omega⟩
    | some n =>
      rw [hn] at hr2
      have hr2 : r2 = (n : Int) := hr2
      have hnl := idxL_lt hn
      refine ⟨fun h => by have := of_decide_eq_true h; omega, fun _ r3 hr3 => ?_⟩
      rw [w64 _ (by omega) (by omega)] at hr3
      have uf : unframeL (bytesOf x.s) = (if s1.size < n + 3 ∨ 4096 < n then none else (match unhexL (((bytesOf s1).take (n + 3)).drop (n + 1)) with
        | none => none
        | some h => if h = [sumS ((bytesOf s1).take n)] then (match plainL ((bytesOf s1).take n) with
          | none => none
          | some d => some (d, (bytesOf s1).drop (n + 3))) else none)) := by
        simp only [unframeL, hi]
        rw [← hb1, hn, hL1]
        all_goals rfl
      refine ⟨fun h => no _ (Sub.refl _) (by have := of_decide_eq_true h; rw [uf, if_pos (.inl (by omega))]), fun h3 => ⟨fun h => no _ (Sub.refl _) (by have := of_decide_eq_true h; rw [uf, if_pos (.inr (by omega))]), fun h4 r4 hr4 r5 hr5 => ?_⟩⟩
      have h3 := of_decide_eq_false h3
      have h4 := of_decide_eq_false h4
      rw [if_neg (by omega)] at uf
      rw [w64 _ (by omega) (by omega)] at hr4 hr5
      refine ok_ (by omega) (ok_ (by omega) fun s6 hs6 => ?_)
      have e4 : r4.toNat = n + 1 := by omega
      have e5 : r5.toNat = n + 3 := by omega
      have e2 : r2.toNat = n := by omega
      rw [e4, e5] at hs6
      have hb6 : bytesOf s6 = ((bytesOf s1).take (n + 3)).drop (n + 1) := by rw [hs6, bytesOf_ext]
      refine ⟨⟨s6, x.G⟩, rfl, Sub.refl _, by show s6.size ≤ 1000000; rw [hs6, ext_size]; omega, fun y hy => ?_⟩
      obtain ⟨y1, y2, y3, y4⟩ := (hy : MayOk x.G (unhexL (bytesOf s6)) y)
      rw [hb6] at y3
      refine ⟨fun h => no _ y1 ?_, fun h => ?_⟩
      · have h : y.ok = false := by simpa using h
        rw [h] at y3
        rw [uf, y3]; rfl
      · have h : y.ok = true := by simpa using h
        rw [h] at y3
        simp only [cond_true] at y3
        have hlen := unhexL_len _ _ y3
        rw [List.length_drop, List.length_take, hL1] at hlen
        have hl1 : y.d.length = 1 := by omega
        have hyl : y.l = 1 := by rw [← y2.len, hl1]
        obtain ⟨b, hb⟩ : ∃ b, y.d = [b] := by
          cases hd : y.d with
          | nil => rw [hd] at hl1; simp at hl1
          | cons b t =>
            rw [hd] at hl1
            have : t = [] := List.eq_nil_of_length_eq_zero (by simpa using hl1)
            exact ⟨b, by rw [this]⟩
        obtain ⟨bk, o, p1, p2, p3⟩ := y2.nth (i := 0) (by omega)
        rw [hb] at p2
        refine ok_ (by omega) ⟨bk, o, p1, ok_ (by omega) fun s7 hs7 => ⟨b, p2, ⟨s7, y.G⟩, rfl, Sub.refl _, ?_, fun m hm => ⟨b, p2, rfl, ?_⟩⟩⟩
        · show s7.size < 9223372036854775808
          rw [hs7, ext_size]; omega
        rw [e2] at hs7
        have hb7 : bytesOf s7 = (bytesOf s1).take n := by rw [hs7, bytesOf_ext0]
        have hm : m = sumS ((bytesOf s1).take n) := by rw [← hb7]; exact hm
        rw [y3, hb] at uf
        refine ⟨fun hne => no _ y1 ?_, fun heq => ok_ (by omega) fun s8 hs8 => ?_⟩
        · have hne : b ≠ m := by simpa using hne
          rw [uf]
          simp only [List.cons.injEq, and_true]
          rw [if_neg (by rw [← hm]; exact hne)]
        · have heq : b = m := by simpa using heq
          rw [e2] at hs8
          have hb8 : bytesOf s8 = (bytesOf s1).take n := by rw [hs8, bytesOf_ext0]
          simp only [List.cons.injEq, and_true] at uf
          rw [if_pos (by rw [← hm]; exact heq)] at uf
          refine ⟨⟨s8, y.G⟩, rfl, Sub.refl _, by show s8.size ≤ 10000; rw [hs8, ext_size]; omega, fun q hq => ?_⟩
          have hq : q = (plainL ((bytesOf s1).take n)).map strOf := by rw [← hb8]; exact hq
          refine ⟨fun h => no _ y1 ?_, fun h r9 hr9 => ok_ ?_ fun s10 hs10 => ?_⟩
          · have h : q = none := by simpa using h
            rw [h] at hq
            cases hp : plainL ((bytesOf s1).take n) with
            | none => rw [uf, hp]
            | some d => rw [hp] at hq; cases hq
          · rw [w64 _ (by omega) (by omega)] at hr9; omega
          · rw [w64 _ (by omega) (by omega)] at hr9
            cases hp : plainL ((bytesOf s1).take n) with
            | none => rw [hp] at hq; rw [hq] at h; simp at h
            | some d =>
              rw [hp] at hq uf
              have e9 : r9.toNat = n + 3 := by omega
              rw [e9] at hs10
              refine ⟨⟨strOf d, s10, true, y.G⟩, ⟨y1, fun d' r' h' => ?_⟩, by rw [hq]; rfl, rfl, rfl, Sub.refl _, trivial⟩
              rw [uf] at h'
              simp only [Option.some.injEq, Prod.mk.injEq] at h'
              obtain ⟨rfl, rfl⟩ := h'
              refine ⟨rfl, rfl, ?_⟩
              apply bytesOf_inj
              rw [hs10, bytesOf_ext', bytesOf_strOf]
              intro z hz
              exact bytesOf_byte s1 z (List.mem_of_mem_drop hz)
theorem spec35 : SpecOk Tryz.prog 35 conUnf.spec := con_of unf_ex

theorem escL_not : ∀ a : List Int, (∀ x ∈ a, IsByte x) → ∀ x ∈ escL a, x ≠ 35 ∧ x ≠ 36
  | [], _, x, hx => by cases hx
  | c :: r, h, x, hx => by
    obtain ⟨h0, h1⟩ := h c List.mem_cons_self
    simp only [escL] at hx
    rcases List.mem_append.1 hx with hx | hx
    · split at hx
      · rename_i hs
        simp only [List.mem_cons, List.not_mem_nil, or_false] at hx
        simp only [isSp, Bool.or_eq_true, beq_iff_eq] at hs
        rcases hx with rfl | rfl
        · exact ⟨by decide, by decide⟩
        · rcases hs with ((rfl | rfl) | rfl) | rfl <;> decide
      · rename_i hs
        rw [List.mem_singleton.1 hx]
        simp only [isSp, Bool.or_eq_true, beq_iff_eq, not_or] at hs
        exact ⟨hs.1.1.1, hs.1.1.2⟩
    · exact escL_not r (fun y hy => h y (List.mem_cons_of_mem _ hy)) x hx
theorem turn5_turn5 {c : Int} (h : IsByte c) : turn5 (turn5 c) = c := by
  obtain ⟨h0, h1⟩ := h
  have : ∀ i : Fin 256, turn5 (turn5 (i.val : Int)) = (i.val : Int) := by decide +kernel
  have := this ⟨c.toNat, by omega⟩
  simp only [] at this
  rwa [show ((c.toNat : Nat) : Int) = c by omega] at this
theorem plainL_escL : ∀ a : List Int, (∀ x ∈ a, IsByte x) → plainL (escL a) = some a
  | [], _ => rfl
  | c :: r, h => by
    have ih := plainL_escL r fun x hx => h x (List.mem_cons_of_mem _ hx)
    have hc := h c List.mem_cons_self
    simp only [escL]
    by_cases hs : isSp c = true
    · simp only [hs, if_true, List.cons_append, List.nil_append, plainL, ih, Option.map_some, turn5_turn5 hc]
    · have hne : c ≠ 125 := fun e => hs (by rw [e]; rfl)
      simp only [hs, Bool.false_eq_true, if_false, List.cons_append, List.nil_append]
      rw [plainL_ne _ hne, ih]; rfl
theorem idxL_skip {c : Int} : ∀ (a b : List Int), (∀ x ∈ a, x ≠ c) → idxL c (a ++ c :: b) = some a.length
  | [], b, _ => by simp [idxL]
  | x :: r, b, h => by
    simp only [List.cons_append, idxL]
    rw [if_neg (h x List.mem_cons_self), idxL_skip r b fun y hy => h y (List.mem_cons_of_mem _ hy)]
    simp
theorem unframe_frame (a d b : List Int) (ha : ∀ x ∈ a, x ≠ 36) (hd : ∀ x ∈ d, IsByte x) (hl : d.length ≤ 600) : unframeL (a ++ frameL d ++ b) = some (d, b) := by
  have e1 : a ++ frameL d ++ b = a ++ 36 :: (escL d ++ 35 :: (hexL [sumS (escL d)] ++ b)) := by simp [frameL]
  have hel := escL_len d
  have hno := escL_not d hd
  have d1 : (a ++ 36 :: (escL d ++ 35 :: (hexL [sumS (escL d)] ++ b))).drop (a.length + 1) = escL d ++ 35 :: (hexL [sumS (escL d)] ++ b) := by
    rw [List.drop_append, List.drop_of_length_le (by omega)]; simp
  have hs := sumS_byte (escL d)
  have t1 : (escL d ++ 35 :: (hexL [sumS (escL d)] ++ b)).take (escL d).length = escL d := by simp
  have t2 : ((escL d ++ 35 :: (hexL [sumS (escL d)] ++ b)).take ((escL d).length + 3)).drop ((escL d).length + 1) = hexL [sumS (escL d)] := by
    rw [List.take_append, List.take_of_length_le (by omega), List.drop_append, List.drop_of_length_le (by omega)]
    simp [hexL]
  have t3 : (escL d ++ 35 :: (hexL [sumS (escL d)] ++ b)).drop ((escL d).length + 3) = b := by
    rw [List.drop_append, List.drop_of_length_le (by omega)]
    simp [hexL]
  rw [e1]
  unfold unframeL
  rw [idxL_skip _ _ ha]
  simp only [d1]
  rw [idxL_skip _ _ fun x hx => (hno x hx).1]
  simp only [t1, t2, t3]
  rw [if_neg (by simp [hexL_one_len]; omega), unhexL_hexL _ (one_byte hs)]
  simp only [if_true, plainL_escL d hd]
theorem frameL_byte (d : List Int) (hd : ∀ x ∈ d, IsByte x) : ∀ x ∈ frameL d, IsByte x := by
  intro x hx
  unfold frameL at hx
  rcases List.mem_cons.1 hx with rfl | hx
  · exact b36
  · rcases List.mem_append.1 hx with hx | hx
    · exact escL_byte d hd x hx
    · rcases List.mem_cons.1 hx with rfl | hx
      · exact b35
      · exact hexL_byte _ (one_byte (sumS_byte _)) x hx
theorem call9_ok (f : Nat) : SpecOk Tryz.prog f (call9 f) :=
  pick1 spec25 <| pick1 spec33 <| pick1 spec34 <| pick1 spec35 <| noSpec_ok _ f
theorem body9_ok : SpecOk Tryz.prog 9 body9 := body_ok call9_ok (fun _ => (famL_ok law9Loop _).ok) (fun vs w => Tryz.call9 vs w)
theorem law9_ex : ∃ T, SpecOk Tryz.prog 9 T ∧ conLaw9.Vc T := by
  refine ⟨body9, body9_ok, ?_⟩
  rw [law9_vc]
  intro x hx
  have done : ∃ (y : Nat → Option Obj), Sw.conLaw9.post x y ∧ true = true ∧ Vx.Sub (Sw.conLaw9.G' x y) x.G ∧ True := ⟨x.G, Sub.refl _, rfl, Sub.refl _, trivial⟩
  refine ⟨⟨x.G⟩, Sub.refl _, trivial, fun _ _ => ⟨fun _ => done, fun h1 => ⟨fun _ => done, fun h2 => ⟨fun _ => done, fun h3 => ?_⟩⟩⟩⟩
  have h1 := of_decide_eq_false h1
  have h2 := of_decide_eq_false h2
  have h3 := of_decide_eq_false h3
  have hs10 : x.s.size ≤ 10000 := by omega
  refine ⟨⟨x.s, x.G⟩, rfl, Sub.refl _, hs10, fun f hf => ⟨⟨x.s, x.G⟩, rfl, Sub.refl _, hs10, fun f2 hf2 => ?_⟩⟩
  have hf : f = strOf (frameL (bytesOf x.s)) := hf
  have hf2 : f2 = strOf (frameL (bytesOf x.s)) := hf2
  have e12 := toList_eq (hf.trans hf2.symm)
  refine ⟨fun h => (by rw [e12] at h; cases h), fun _ => ?_⟩
  refine ⟨⟨x, f⟩, ⟨0⟩, rfl, rfl, rfl, rfl, rfl, Sub.refl _, ⟨Nat.zero_le _, ⟨?_, ?_, ?_⟩, hf, fun j hj => by have : j < 0 := hj; omega⟩, fun z hz d => ?_⟩
  · show x.s.size ≤ 600; omega
  · show x.a.size ≤ 100; omega
  · show x.b.size ≤ 100; omega
  obtain ⟨z1, _, _, z4⟩ := (hz : z.i ≤ x.a.size ∧ (x.s.size ≤ 600 ∧ x.a.size ≤ 100 ∧ x.b.size ≤ 100) ∧ f = strOf (frameL (bytesOf x.s)) ∧ ∀ j, j < z.i → (bytesOf x.a).getD j 0 ≠ 36)
  refine ⟨fun hlt => ?_, fun hge => ?_⟩
  · have hlt : (z.i : Int) < (x.a.size : Int) := of_decide_eq_true hlt
    refine ok_ (show (0 : Int) ≤ (z.i : Int) ∧ (z.i : Int) < (x.a.size : Int) from by omega) ⟨fun _ => done, fun hne r hr => ⟨⟨z.i + 1⟩, ⟨by show z.i + 1 ≤ x.a.size; omega, ⟨by show x.s.size ≤ 600; omega, by show x.a.size ≤ 100; omega, by show x.b.size ≤ 100; omega⟩, hf, fun j hj => ?_⟩, ?_, rfl, rfl, rfl, rfl, ?_, Sub.refl _, trivial⟩⟩
    · have hj : j < z.i + 1 := hj
      rcases Nat.lt_or_ge j z.i with h | h
      · exact z4 j h
      · have : j = z.i := by omega
        subst this
        have hne' : byteAt x.a (z.i : Int) ≠ 36 := ne_b hne
        rwa [byteAt_getD x.a z.i (by omega)] at hne'
    · show x.a.size - (z.i + 1) < x.a.size - z.i; omega
    · show ((z.i + 1 : Nat) : Int) = r
      rw [hr, w64 _ (by omega) (by omega)]; rfl
  · have hge : ¬ (z.i : Int) < (x.a.size : Int) := of_decide_eq_false hge
    have hLa := bytesOf_length x.a
    have hall : ∀ y ∈ bytesOf x.a, y ≠ 36 := fun y hy => by
      obtain ⟨j, hj, e⟩ := List.mem_iff_getElem.1 hy
      have := z4 j (by omega)
      rw [getD_eq _ _ _ hj, e] at this
      exact this
    have hfb := frameL_byte _ (bytesOf_byte x.s)
    have hfl : (frameL (bytesOf x.s)).length ≤ 1300 := by
      have := escL_len (bytesOf x.s)
      rw [bytesOf_length] at this
      simp only [frameL, List.length_cons, List.length_append, hexL_one_len]; omega
    have hfs : f.size ≤ 1300 := by rw [hf, strOf_len]; exact hfl
    refine ⟨?_, fun r hr => ⟨?_, fun r1 hr1 => ⟨⟨r1, x.G⟩, rfl, Sub.refl _, ?_, fun y hy => ?_⟩⟩⟩
    · show ((x.a.size + f.size : Nat) : Int) ≤ _; omega
    · rw [hr, ByteArray.size_append]
      show ((x.a.size + f.size + x.b.size : Nat) : Int) ≤ _; omega
    · show r1.size ≤ 10000
      rw [hr1, hr, ByteArray.size_append, ByteArray.size_append]
      show x.a.size + f.size + x.b.size ≤ _; omega
    · obtain ⟨y1, y2⟩ := (hy : Sub x.G y.G ∧ ∀ d r, unframeL (bytesOf r1) = some (d, r) → y.ok = true ∧ y.a = strOf d ∧ y.b = strOf r)
      have e : bytesOf r1 = bytesOf x.a ++ frameL (bytesOf x.s) ++ bytesOf x.b := by
        rw [hr1, hr, bytesOf_app, bytesOf_app]
        show bytesOf x.a ++ bytesOf f ++ bytesOf x.b = _
        rw [hf, bytesOf_strOf _ hfb]
      obtain ⟨k1, k2, k3⟩ := y2 _ _ (by rw [e]; exact unframe_frame _ _ _ hall (bytesOf_byte x.s) (by rw [bytesOf_length]; omega))
      rw [strOf_bytesOf] at k2 k3
      have ea := toList_eq k2
      have eb := toList_eq k3
      refine ⟨fun _ => ⟨fun _ => ⟨y.G, y1, eb.symm, Sub.refl _, trivial⟩, fun h => by rw [ea] at h; cases h⟩, fun h => by rw [k1] at h; cases h⟩
theorem spec9 : SpecOk Tryz.prog 9 conLaw9.spec := con_of law9_ex
end Sw
end
