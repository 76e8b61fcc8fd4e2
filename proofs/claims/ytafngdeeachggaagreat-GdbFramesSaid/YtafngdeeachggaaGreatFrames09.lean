/- What this text proves, part by part: save.Parse, the sum and the comparison of bytes that stay do what is said. gdb.Hex, gdb.value, gdb.Unhex and the document's: what they do. What GdHex2's conditions come to, word for word: made by a program. gdb.Hex, gdb.value and the document's do what is said. gdb.Unhex, gdb.Sum and the document's: what they do. What GdHex3's conditions come to, word for word: made by a program. gdb.Unhex, gdb.Sum and the document's do what is said. No condition is added. -/
import Derived.Test.YtafngdeeachggaaGreatFrames01
import Derived.Test.YtafngdeeachggaaGreatFrames02
import Derived.Test.YtafngdeeachggaaGreatFrames03
import Derived.Test.YtafngdeeachggaaGreatFrames04
import Derived.Test.YtafngdeeachggaaGreatFrames05
import Derived.Test.YtafngdeeachggaaGreatFrames06
import Derived.Test.YtafngdeeachggaaGreatFrames07
import Derived.Test.YtafngdeeachggaaGreatFrames08
set_option linter.unusedVariables false
set_option linter.unusedSimpArgs false
section
/- save.Parse, the sum and the comparison of bytes that stay do what is said. -/
namespace Sw
set_option maxRecDepth 100000
open Go Go.Proofs Vx

theorem sumG_ok : conSumG.Vc body44G := by
  rw [sumG_vc]
  intro x hx
  obtain ⟨hb, hl⟩ := (hx : Bs x.G x.p x.l x.c x.d ∧ x.l ≤ 1000000)
  have hlen := hb.len
  refine ⟨x, ⟨0, 2166136261⟩, rfl, rfl, rfl, rfl, rfl, rfl, Sub.refl _, ⟨⟨Nat.zero_le _, rfl⟩, hb, hl⟩, ?_⟩
  intro y hy d
  obtain ⟨⟨h1, h2⟩, _⟩ := (hy : (y.i ≤ x.l ∧ y.w = sumB (x.d.take y.i)) ∧ Bs x.G x.p x.l x.c x.d ∧ x.l ≤ 1000000)
  refine ⟨fun hb' => ?_, fun hb' => ?_⟩
  · have hb' := of_decide_eq_true hb'
    have hi : y.i < x.l := by omega
    have hid : y.i < x.d.length := by omega
    obtain ⟨b, o, e1, e2, e3⟩ := hb.nth hi
    have e : ((y.i : Int).toNat * 1) = y.i := by omega
    refine ⟨by omega, fun _ => ⟨b, o, e1, _, by rw [e]; exact e2, fun r hr r1 hr1 r2 hr2 r3 hr3 r4 hr4 => ?_⟩⟩
    refine ⟨⟨y.i + 1, r3⟩, ⟨⟨hi, ?_⟩, hb, hl⟩, ?_, rfl, rfl, rfl, rfl, ?_, rfl, Sub.refl _, trivial⟩
    · show r3 = sumB (x.d.take (y.i + 1))
      rw [take_succ' _ _ hid, sumB, List.foldl_append]
      have h2 : y.w = List.foldl stepB 2166136261 (x.d.take y.i) := h2
      rw [← h2]
      show r3 = stepB y.w x.d[y.i]
      rw [getD_eq _ _ _ hid] at hr
      rw [hr3, hr2, hr1, hr]; rfl
    · show x.l - (y.i + 1) < x.l - y.i
      omega
    · rw [hr4, w64 _ (by omega) (by omega)]; rfl
  · have hb' := of_decide_eq_false hb'
    refine ⟨y.w, ?_, rfl, Sub.refl _, trivial⟩
    show y.w = sumB x.d
    have hi : y.i = x.d.length := by omega
    rw [h2, hi, List.take_length]
theorem spec44G : SpecOk Tryz.prog 44 conSumG.spec :=
  Con.sound (body_ok (fun f => noSpec_ok _ f) (fun _ => (famL_ok sumGL _).ok) (fun vs w => Tryz.call44 vs w)) sumG_ok

theorem cmpG_ok : conCmpG.Vc body13G := by
  rw [cmpG_vc]
  intro x hx
  obtain ⟨hb1, hb2, hl⟩ := (hx : CmpGPre x)
  have n1 := hb1.len
  have n2 := hb2.len
  refine ⟨fun hb => ?_, fun hb => ?_⟩
  · have hne : x.l ≠ x.l2 := by have := bne_iff_ne.1 hb; omega
    refine ⟨false, ?_, rfl, Sub.refl _, trivial⟩
    show false = decide (x.d = x.d2)
    exact (decide_eq_false fun h => hne (by rw [← n1, ← n2, h])).symm
  · have he : x.l = x.l2 := Int.ofNat.inj (by simpa using hb)
    refine ⟨x, 0, rfl, rfl, rfl, rfl, rfl, rfl, rfl, Sub.refl _, ⟨⟨Nat.zero_le _, he, rfl⟩, hb1, hb2, hl⟩, ?_⟩
    intro i hi d
    obtain ⟨⟨g1, g2, g3⟩, _⟩ := (hi : (i ≤ x.l ∧ x.l = x.l2 ∧ x.d.take i = x.d2.take i) ∧ CmpGPre x)
    refine ⟨fun hb => ?_, fun hb => ?_⟩
    · have hb := of_decide_eq_true hb
      have l1 : i < x.d.length := by omega
      have l2 : i < x.d2.length := by omega
      have e : ((i : Int).toNat * 1) = i := by omega
      obtain ⟨b, o, a1, a2, _⟩ := hb1.nth (i := i) (by omega)
      obtain ⟨b', o', c1, c2, _⟩ := hb2.nth (i := i) (by omega)
      refine ⟨by omega, fun _ => ⟨b, o, a1, _, by rw [e]; exact a2, by omega, fun _ => ⟨b', o', c1, _, by rw [e]; exact c2, ?_⟩⟩⟩
      rw [getD_eq _ _ _ l1, getD_eq _ _ _ l2]
      refine ⟨fun hb => ?_, fun hb r hr => ?_⟩
      · have hne : x.d[i] ≠ x.d2[i] := by simpa using hb
        refine ⟨false, ?_, rfl, Sub.refl _, trivial⟩
        show false = decide (x.d = x.d2)
        refine (decide_eq_false fun h => hne ?_).symm
        exact List.getElem_of_eq h l1
      · have heq : x.d[i] = x.d2[i] := by simpa using hb
        refine ⟨i + 1, ⟨⟨by show i + 1 ≤ x.l; omega, g2, ?_⟩, hb1, hb2, hl⟩, ?_, rfl, rfl, rfl, rfl, rfl, rfl, ?_, Sub.refl _, trivial⟩
        · show x.d.take (i + 1) = x.d2.take (i + 1)
          rw [take_succ' _ _ l1, take_succ' _ _ l2, g3, heq]
        · show x.l - (i + 1) < x.l - i
          omega
        · rw [hr, w64 _ (by omega) (by omega)]; rfl
    · have hb := of_decide_eq_false hb
      refine ⟨true, ?_, rfl, Sub.refl _, trivial⟩
      show true = decide (x.d = x.d2)
      refine (decide_eq_true ?_).symm
      have e1 : i = x.d.length := by omega
      have e2 : i = x.d2.length := by omega
      have q1 : x.d.take i = x.d := by rw [e1, List.take_length]
      have q2 : x.d2.take i = x.d2 := by rw [e2, List.take_length]
      rw [← q1, ← q2]; exact g3
theorem spec13G : SpecOk Tryz.prog 13 conCmpG.spec :=
  Con.sound (body_ok (fun f => noSpec_ok _ f) (fun _ => (famL_ok cmpGL _).ok) (fun vs w => Tryz.call13 vs w)) cmpG_ok

/-- The record that is told where there is none. -/
def zeroRec (G : Nat → Option Obj) : RecX := ⟨0, 0, false, none, 0, 0, [], none, 0, 0, [], ByteArray.empty, none, 0, 0, [], G⟩
theorem u0 : IsU64 0 := ⟨by decide, by decide⟩
theorem zeroRec_ok (G : Nat → Option Obj) : RecOk (zeroRec G) :=
  ⟨u0, u0, bs_nil G, bs_nil G, rfl, .inl ⟨rfl, rfl⟩, fun e he => (by cases he), (by decide : (0 : Nat) < 9223372036854775808), (by decide : (0 : Nat) < 9223372036854775808)⟩
theorem err_end (x : BsX) (G : Nat → Option Obj) (hG : Sub x.G G) (h : ¬ ∃ r, Canon r ∧ x.d = recB r ++ word4 (sumB (recB r))) :
    ∃ (y : Sw.ParY), Sw.conParse.post x y ∧ y.r.ram = (0 : Int) ∧ y.r.sec = (0 : Int) ∧ y.r.locked = Bool.false ∧ y.r.dp = Option.none ∧ y.r.dl = (0 : Nat) ∧ y.r.dc = (0 : Nat) ∧ y.r.ip = Option.none ∧ y.r.il = (0 : Nat) ∧ y.r.ic = (0 : Nat) ∧ y.r.name = { data := #[] } ∧ y.r.ep = Option.none ∧ y.r.el = (0 : Nat) ∧ y.r.ec = (0 : Nat) ∧ y.err = (250 : Int) ∧ Vx.Sub (Sw.conParse.G' x y) G ∧ True :=
  ⟨⟨zeroRec G, 250⟩, ⟨hG, zeroRec_ok G, ⟨Nat.zero_le _, Nat.zero_le _, Nat.zero_le _, Nat.zero_le _, fun e he => (by cases he)⟩, .inr ⟨rfl, rfl, rfl, h⟩⟩, rfl, rfl, rfl, rfl, rfl, rfl, rfl, rfl, rfl, rfl, rfl, rfl, rfl, rfl, Sub.refl _, trivial⟩

theorem RText.next {x : RdrX} (hl : x.l ≤ 1000000) {y : TextRY} (h : RTextPost x y) : RdrOk ⟨y.p, y.l, y.c, y.d, y.bad, y.G⟩ := by
  obtain ⟨_, k1, k2, _⟩ := h
  exact ⟨k1, by show y.l ≤ 1000000; omega⟩
theorem hasText_of3 {d : List Int} (h : HasText3 d) : HasText d := by
  obtain ⟨a, b, c, rest, h1, h2, h3, h4⟩ := h
  exact ⟨a, _, h1, h4⟩
/-- Three texts, one behind the other. -/
theorem three {x : RdrX} (hl : x.l ≤ 1000000) {y1 y2 y3 : TextRY} (h1 : RTextPost x y1) (h2 : RTextPost ⟨y1.p, y1.l, y1.c, y1.d, y1.bad, y1.G⟩ y2) (h3 : RTextPost ⟨y2.p, y2.l, y2.c, y2.d, y2.bad, y2.G⟩ y3) :
    P9Post x ⟨y3.p, y3.l, y3.c, y3.d, y3.bad, y1.tp, y1.tl, y1.tc, y1.td, y2.tp, y2.tl, y2.tc, y2.td, strOf y3.td, y3.G⟩ := by
  obtain ⟨a1, a2, a3, a4, a5, a6⟩ := h1
  obtain ⟨b1, b2, b3, b4, b5, b6⟩ := h2
  obtain ⟨c1, c2, c3, c4, c5, c6⟩ := h3
  have b3 : y2.l ≤ y1.l := b3
  have c3 : y3.l ≤ y2.l := c3
  have b5 : y2.tl ≤ y1.l := b5
  have c5 : y3.tl ≤ y2.l := c5
  have b1 : Sub y1.G y2.G := b1
  have c1 : Sub y2.G y3.G := c1
  have hn : bytesOf (strOf y3.td) = y3.td := bytesOf_strOf _ c4.byte
  have hsz := strOf_size y3.td
  have hlen := c4.len
  refine ⟨(a1.trans b1).trans c1, c2, by show y3.l ≤ x.l; omega, a4.mono (b1.trans c1), a5, b4.mono c1, by show y2.tl ≤ x.l; omega, by show (strOf y3.td).size ≤ x.l; omega, ?_⟩
  show (y3.bad = true ∧ (x.bad = true ∨ ¬ HasText3 x.d)) ∨ (y3.bad = x.bad ∧ x.d = textB y1.td ++ (textB y2.td ++ (textB (bytesOf (strOf y3.td)) ++ y3.d)))
  rw [hn]
  have t1 := a4.len
  have t2 := b4.len
  rcases c6 with ⟨c6, c7⟩ | ⟨c6, c7⟩
  · refine .inl ⟨c6, ?_⟩
    by_cases hx : x.bad = true
    · exact .inl hx
    · refine .inr fun ⟨p, q, r, rest, p1, q1, r1, e⟩ => ?_
      rcases a6 with ⟨_, a7 | a7⟩ | ⟨a6, a7⟩
      · exact hx a7
      · exact a7 ⟨p, _, p1, e⟩
      · rw [a7] at e
        obtain ⟨_, e⟩ := text_inj (by omega) p1 e
        rcases b6 with ⟨_, b7 | b7⟩ | ⟨b6, b7⟩
        · exact hx (a6 ▸ b7)
        · exact b7 ⟨q, _, q1, e⟩
        · have b7 : y1.d = textB y2.td ++ y2.d := b7
          rw [b7] at e
          obtain ⟨_, e⟩ := text_inj (by omega) q1 e
          rcases c7 with c7 | c7
          · have b6 : y2.bad = y1.bad := b6
            have c7 : y2.bad = true := c7
            exact hx (by rw [← a6, ← b6, c7])
          · exact c7 ⟨r, rest, r1, e⟩
  · have c6 : y3.bad = y2.bad := c6
    have c7 : y2.d = textB y3.td ++ y3.d := c7
    rcases b6 with ⟨b6, b7⟩ | ⟨b6, b7⟩
    · refine .inl ⟨by rw [c6]; exact b6, ?_⟩
      by_cases hx : x.bad = true
      · exact .inl hx
      · refine .inr fun ⟨p, q, r, rest, p1, q1, r1, e⟩ => ?_
        rcases a6 with ⟨_, a7 | a7⟩ | ⟨a6, a7⟩
        · exact hx a7
        · exact a7 ⟨p, _, p1, e⟩
        · rw [a7] at e
          obtain ⟨_, e⟩ := text_inj (by omega) p1 e
          rcases b7 with b7 | b7
          · exact hx (a6 ▸ b7)
          · exact b7 ⟨q, _, q1, e⟩
    · have b6 : y2.bad = y1.bad := b6
      have b7 : y1.d = textB y2.td ++ y2.d := b7
      rcases a6 with ⟨a6, a7⟩ | ⟨a6, a7⟩
      · refine .inl ⟨by rw [c6, b6]; exact a6, ?_⟩
        rcases a7 with a7 | a7
        · exact .inl a7
        · exact .inr fun h => a7 (hasText_of3 h)
      · exact .inr ⟨by rw [c6, b6, a6], by rw [a7, b7, c7]⟩

theorem RNumPost.hp {x : RdrX} {y : NumY} (h : RNumPost x y) : (y.bad = true ∧ (x.bad = true ∨ ¬ HasNum x.d)) ∨ (y.bad = x.bad ∧ x.d = numB 10 y.v.toNat ++ y.d) := h.2.2.2
theorem evsSame_full {es : List Ev} {r : RecX} {n : Nat} (h : EvsSame es (r.evs.take n)) (hn : r.evs.length = n) : EvsSame es r.evs := by
  rwa [← hn, List.take_length] at h
theorem EvsSame.len : ∀ {a b : List Ev}, EvsSame a b → a.length = b.length
  | [], [], _ => rfl
  | _ :: _, _ :: _, ⟨_, h⟩ => by simp [h.len]
theorem bytesOf_inj {a b : ByteArray} (h : bytesOf a = bytesOf b) : a = b := by
  have key : ∀ l m : List UInt8, (l.map fun b => (b.toNat : Int)) = (m.map fun b => (b.toNat : Int)) → l = m := by
    intro l
    induction l with
    | nil => intro m h; cases m with
      | nil => rfl
      | cons y m => simp at h
    | cons x l ih => intro m h; cases m with
      | nil => simp at h
      | cons y m =>
        simp only [List.map_cons, List.cons.injEq] at h
        obtain ⟨h1, h2⟩ := h
        have : x = y := UInt8.toNat_inj.1 (by omega)
        rw [this, ih m h2]
  exact ByteArray.ext (Array.ext' (key _ _ h))
/-- Where all events are read: the record is whole. -/
theorem ParSem.done {g : ParG} {i : Int} {p : Option Addr} {l c : Nat} {d : List Int} {es : List Ev} {G : Nat → Option Obj} (h : ParSem g i p l c d false es G) (hi : ¬ i < g.n) (hl : l = 0) (hlk : g.lk ≤ 1) (ep : Option Addr) (ec : Nat) :
    ZPost g.x { g.r with ep := ep, el := es.length, ec := ec, evs := es, G := G } := by
  have hh := h.head
  have h0 := h.hi
  have hle := h.le
  have hn : g.n.toNat = es.length := by omega
  have hd : d = [] := List.eq_nil_of_length_eq_zero (by rw [h.bs.len]; exact hl)
  rcases h.sem with ⟨h1, _⟩ | ⟨_, s1, s2, s3⟩
  · cases h1
  have hu := h.used rfl
  have hxl := hh.l
  have hnm := hh.small
  have hpay : g.pre ++ g.d = recB { g.r with ep := ep, el := es.length, ec := ec, evs := es, G := G } := by
    rw [hh.pre hlk, s2, hd, hn, List.append_nil]
    rfl
  refine ⟨hh.sub.trans h.sub, ⟨hh.ram, hh.sec, hh.disk.mono h.sub, hh.image.mono h.sub, rfl, fun e he => (h.evs e he).1, ?_, ?_⟩, ⟨hnm.1, hnm.2.1, hnm.2.2, ?_, fun e he => (h.evs e he).2⟩, s1, ?_, fun s hs he => ?_⟩
  · show g.r.name.size < _
    omega
  · show es.length < _
    omega
  · show es.length ≤ g.x.l
    omega
  · rw [← hpay]; exact hh.sum
  · rw [← hpay] at he
    obtain ⟨t1, t2⟩ := s3 s hs he
    obtain ⟨n1, n2⟩ := hh.cur.elim (fun h => by cases h.1) fun h => h.2.2 s hs he
    obtain ⟨m1, m2, m3, m4, m5, m6, m7⟩ := n2
    have hel := hs.el
    have hname : g.r.name = s.name := (bytesOf_inj m6).symm
    refine ⟨m1.symm, m2.symm, ?_, m4.symm, m5.symm, hname, ?_, evsSame_full t1 (by omega)⟩
    · have hL := hh.locked
      show g.r.locked = s.locked
      rw [hL, ← m3]
      cases s.locked <;> rfl
    · show es.length = s.el
      omega

theorem parse_ok : conParse.VcAlt frzPar body17 := by
  rw [parse_vc]
  intro x hx
  obtain ⟨hb, hl⟩ := (hx : Bs x.G x.p x.l x.c x.d ∧ x.l ≤ 30000)
  have hlen := hb.len
  have hcap := hb.cap
  refine ⟨fun h4 => .inl (err_end x x.G (Sub.refl _) fun ⟨r, _, hr⟩ => ?_), fun h4 r hr => ⟨hcap, fun _ => ?_⟩⟩
  · have h4 := of_decide_eq_true h4
    have := congrArg List.length hr
    simp only [List.length_append, word4_len] at this
    omega
  have h4 := of_decide_eq_false h4
  obtain ⟨k, hk⟩ : ∃ k, x.l = k + 4 := ⟨x.l - 4, by omega⟩
  have er : r = (k : Int) := by rw [hr, w64 _ (by omega) (by omega)]; omega
  refine ⟨by omega, fun _ a ha r1 hr1 => ⟨hcap, fun _ => ?_⟩⟩
  have er1 : r1 = (k : Int) := by rw [hr1, w64 _ (by omega) (by omega)]; omega
  refine ⟨by omega, fun _ a1 ha1 => ?_⟩
  have := a0_eq ha1
  subst this
  have hrk : r.toNat = k := by omega
  have ha' : a = if x.c = k then x.p else x.p.map fun y => y.add k := by rw [ha, hrk, Nat.mul_one]
  have hb4 := hb.drop (k := k) (by omega) ha'
  have hbk := hb.take (k := k) (by omega)
  refine ⟨⟨a, x.l - k, x.c - k, x.d.drop k, x.G⟩, rfl, by rw [hrk], by rw [hrk], Sub.refl _, ⟨hb4, by show x.l - k = 4; omega⟩, fun y hy => ?_⟩
  refine ⟨⟨x.p, k, x.c, x.d.take k, x.G⟩, rfl, by show k = r1.toNat - 0; omega, by simp, Sub.refl _, ⟨hbk, by show k ≤ 1000000; omega⟩, fun y1 hy1 => ?_⟩
  have hy : y = (x.d.drop k).getD 0 0 + (x.d.drop k).getD 1 0 * 256 + (x.d.drop k).getD 2 0 * 65536 + (x.d.drop k).getD 3 0 * 16777216 := hy
  have hy1 : y1 = sumB (x.d.take k) := hy1
  obtain ⟨se1, se2⟩ := sum_eq hbk.byte
  -- a record's bytes are those ahead of the last four
  have pays : ∀ r, x.d = recB r ++ word4 (sumB (recB r)) → x.d.take k = recB r ∧ x.d.drop k = word4 (sumB (x.d.take k)) := fun r hr => by
    obtain ⟨g1, g2⟩ := split4 (k := k) (by omega) hr
    exact ⟨g1, by rw [g2, g1]⟩
  have none : NoRec (x.d.take k) → ¬ ∃ r, Canon r ∧ x.d = recB r ++ word4 (sumB (recB r)) := fun h ⟨r, hc, hr⟩ => h ⟨r, hc, (pays r hr).1⟩
  refine ⟨fun hne => .inl (err_end x x.G (Sub.refl _) fun ⟨r, _, hr⟩ => ?_), fun heq r hr => ⟨hcap, fun _ => ?_⟩⟩
  · obtain ⟨g1, g2⟩ := pays r hr
    have : y = y1 := by
      rw [hy, hy1, g2, of_word4]
      rw [se1]; exact se2
    rw [this] at hne
    simp at hne
  have heq : y = y1 := by simpa using heq
  have hsum : x.d = x.d.take k ++ word4 (sumB (x.d.take k)) := by
    have := of_list (l := x.d.drop k) (by simp; omega) hb4.byte
    rw [← hy, heq, hy1] at this
    rw [← this, List.take_append_drop]
  have er : r = (k : Int) := by rw [hr, w64 _ (by omega) (by omega)]; omega
  refine ⟨by omega, fun _ a2 ha2 => ?_⟩
  have := a0_eq ha2
  subst this
  have hR : RdrOk ⟨x.p, k, x.c, x.d.take k, false, x.G⟩ := ⟨hbk, by show k ≤ 1000000; omega⟩
  refine ⟨⟨x.p, k, x.c, x.d.take k, false, x.G⟩, rfl, by show k = r.toNat - 0; omega, by simp, rfl, Sub.refl _, hR, fun n1 hn1 => ?_⟩
  have hn1 : RNumPost ⟨x.p, k, x.c, x.d.take k, false, x.G⟩ n1 := hn1
  have c1 := ((Cur.start (x.d.take k)).as recB_eq).num (f := fun _ => 478443366774) (fun _ _ => by decide) (by have := hn1.2.2.1; unfold IsU64 at this; omega : n1.v.toNat < 18446744073709551616) hn1.hp
  have l1 : n1.l ≤ k := hn1.2.1
  refine ⟨fun hne => .inl (err_end x x.G (Sub.refl _) (none (c1.no fun _ r _ _ _ q => ?_))), fun hmag => ?_⟩
  · have q := q.2
    have := hn1.2.2.1.1
    have : n1.v = 478443366774 := by omega
    rw [this] at hne
    exact absurd hne (by decide)
  have hmag : n1.v = 478443366774 := by simpa using hmag
  have R1 := RdrOk.next (x := ⟨x.p, k, x.c, x.d.take k, false, x.G⟩) (by show k ≤ 1000000; omega) hn1
  refine ⟨⟨n1.p, n1.l, n1.c, n1.d, n1.bad, x.G⟩, rfl, rfl, rfl, rfl, Sub.refl _, R1, fun n2 hn2 => ?_⟩
  have hn2 : RNumPost ⟨n1.p, n1.l, n1.c, n1.d, n1.bad, x.G⟩ n2 := hn2
  have c2 := c1.num (f := fun r => r.ram.toNat) (fun r hc => by have := hc.ram; unfold IsU64 at this; omega) (by have := hn2.2.2.1; unfold IsU64 at this; omega : n2.v.toNat < 18446744073709551616) hn2.hp
  have l2 : n2.l ≤ n1.l := hn2.2.1
  have R2 := RdrOk.next (x := ⟨n1.p, n1.l, n1.c, n1.d, n1.bad, x.G⟩) (by show n1.l ≤ 1000000; omega) hn2
  refine ⟨⟨n2.p, n2.l, n2.c, n2.d, n2.bad, x.G⟩, rfl, rfl, rfl, rfl, Sub.refl _, R2, fun n3 hn3 => ?_⟩
  have hn3 : RNumPost ⟨n2.p, n2.l, n2.c, n2.d, n2.bad, x.G⟩ n3 := hn3
  have c3 := c2.num (f := fun r => r.sec.toNat) (fun r hc => by have := hc.sec; unfold IsU64 at this; omega) (by have := hn3.2.2.1; unfold IsU64 at this; omega : n3.v.toNat < 18446744073709551616) hn3.hp
  have l3 : n3.l ≤ n2.l := hn3.2.1
  have R3 := RdrOk.next (x := ⟨n2.p, n2.l, n2.c, n2.d, n2.bad, x.G⟩) (by show n2.l ≤ 1000000; omega) hn3
  refine ⟨⟨n3.p, n3.l, n3.c, n3.d, n3.bad, x.G⟩, rfl, rfl, rfl, rfl, Sub.refl _, R3, fun n4 hn4 => ?_⟩
  have hn4 : RNumPost ⟨n3.p, n3.l, n3.c, n3.d, n3.bad, x.G⟩ n4 := hn4
  have c4 := c3.num (f := fun r => cond r.locked 1 0) (fun r hc => by cases r.locked <;> decide) (by have := hn4.2.2.1; unfold IsU64 at this; omega : n4.v.toNat < 18446744073709551616) hn4.hp
  have l4 : n4.l ≤ n3.l := hn4.2.1
  have R4 := RdrOk.next (x := ⟨n3.p, n3.l, n3.c, n3.d, n3.bad, x.G⟩) (by show n3.l ≤ 1000000; omega) hn4
  refine ⟨⟨⟨n4.p, n4.l, n4.c, n4.d, n4.bad, x.G⟩, n2.v, n3.v, (n4.v == (1 : Int)), n4.v⟩, rfl, rfl, rfl, rfl, rfl, rfl, rfl, rfl, rfl, Sub.refl _, R4, fun d => ?_, fun t ht d => ?_⟩
  · -- the three texts
    refine ⟨⟨n4.p, n4.l, n4.c, n4.d, n4.bad, x.G⟩, rfl, rfl, rfl, rfl, Sub.refl _, R4, fun t1 ht1 => ?_⟩
    have m4 : n4.l ≤ 1000000 := by omega
    have S1 := RText.next (x := ⟨n4.p, n4.l, n4.c, n4.d, n4.bad, x.G⟩) m4 ht1
    have m5 : t1.l ≤ 1000000 := S1.2
    refine ⟨⟨t1.p, t1.l, t1.c, t1.d, t1.bad, t1.G⟩, rfl, rfl, rfl, rfl, Sub.refl _, S1, fun t2 ht2 => ?_⟩
    have S2 := RText.next (x := ⟨t1.p, t1.l, t1.c, t1.d, t1.bad, t1.G⟩) m5 ht2
    have m6 : t2.l ≤ 1000000 := S2.2
    refine ⟨⟨t2.p, t2.l, t2.c, t2.d, t2.bad, t2.G⟩, rfl, rfl, rfl, rfl, Sub.refl _, S2, fun t3 ht3 => ?_⟩
    have hp := three (x := ⟨n4.p, n4.l, n4.c, n4.d, n4.bad, x.G⟩) m4 ht1 ht2 ht3
    obtain ⟨_, _, _, q4, _, _⟩ := (ht3 : RTextPost ⟨t2.p, t2.l, t2.c, t2.d, t2.bad, t2.G⟩ t3)
    refine ⟨t3.td, q4.len, q4.at_, fun r hr => ⟨t3.td, q4.len, q4.at_, fun r2 hr2 => ⟨hr2.trans hr.symm, t3.td, q4.len, q4.at_, fun r3 hr3 => ⟨hr3.trans hr.symm, ?_⟩⟩⟩⟩
    exact ⟨⟨t3.p, t3.l, t3.c, t3.d, t3.bad, t1.tp, t1.tl, t1.tc, t1.td, t2.tp, t2.tl, t2.tc, t2.td, strOf t3.td, t3.G⟩, hp, rfl, rfl, rfl, rfl, rfl, rfl, rfl, rfl, rfl, rfl, rfl, rfl, rfl, rfl, hr.symm, Sub.refl _, trivial⟩
  have ht : P9Post ⟨n4.p, n4.l, n4.c, n4.d, n4.bad, x.G⟩ t := ht
  obtain ⟨p1, p2, p3, p4, p5, p6, p7, p8, p9⟩ := ht
  have p1 : Sub x.G t.G := p1
  have p3 : t.l ≤ n4.l := p3
  have p5 : t.dl ≤ n4.l := p5
  have p7 : t.il ≤ n4.l := p7
  have p8 : t.name.size ≤ n4.l := p8
  have hdl := p4.len
  have hil := p6.len
  have hnl := bytesOf_len t.name
  have c5 := c4.text3 (f := fun r => r.dd) (g := fun r => r.id) (k := fun r => bytesOf r.name) (fun r hc => ⟨hc.dd, hc.id, hc.name⟩) (a := t.dd) (b := t.id) (c := bytesOf t.name) (by omega) p9
  have hR5 : RdrOk ⟨t.p, t.l, t.c, t.d, t.bad, t.G⟩ := ⟨p2, by show t.l ≤ 1000000; omega⟩
  refine ⟨⟨t.p, t.l, t.c, t.d, t.bad, t.G⟩, rfl, rfl, rfl, rfl, Sub.refl _, hR5, fun n hn => ?_⟩
  have hn : RNumPost ⟨t.p, t.l, t.c, t.d, t.bad, t.G⟩ n := hn
  have c6 := c5.num (f := fun r => r.el) (fun r hc => hc.el.2) (by have := hn.2.2.1; unfold IsU64 at this; omega : n.v.toNat < 18446744073709551616) hn.hp
  have l6 : n.l ≤ t.l := hn.2.1
  have hnu := hn.2.2.1
  have hn4u := hn4.2.2.1
  obtain ⟨hnu0, hnu1⟩ := id hnu
  obtain ⟨hn40, hn41⟩ := id hn4u
  -- ends without a record
  have bad6 : ∀ {G : Nat → Option Obj}, Sub x.G G → NoRec (x.d.take k) → _ := fun {G} hG h => err_end x G hG (none h)
  let R : RecX := ⟨n2.v, n3.v, (n4.v == (1 : Int)), t.dp, t.dl, t.dc, t.dd, t.ip, t.il, t.ic, t.id, t.name, Option.none, 0, 0, [], t.G⟩
  -- ahead of the first event
  have head : n.bad = false → ∃ g : ParG, g.x = x ∧ g.r = R ∧ g.n = n.v ∧ g.lk = n4.v ∧ g.pre ++ g.d = x.d.take k ∧ ParSem g 0 n.p n.l n.c n.d false [] t.G := by
    intro hgood
    rcases c6 with ⟨h, _⟩ | ⟨_, h2, h3⟩
    · rw [hgood] at h; cases h
    · have hm : (478443366774 : Nat) = n1.v.toNat := by omega
      refine ⟨⟨x, _, n.d, n.v, n4.v, R⟩, rfl, rfl, rfl, rfl, h2.symm, ?_⟩
      have hk6 : ∀ s, Canon s → x.d.take k = recB s → n.d = evsB s.evs ∧ s.ram = n2.v ∧ s.sec = n3.v ∧ (cond s.locked 1 0 : Int) = n4.v ∧ s.dd = t.dd ∧ s.id = t.id ∧ bytesOf s.name = bytesOf t.name ∧ (s.el : Int) = n.v := by
        intro s hs he
        obtain ⟨q0, ⟨⟨⟨⟨⟨_, _⟩, q2⟩, q3⟩, q4⟩, q5, q6, q7⟩, q8⟩ := h3 s hs he
        have e1 := hs.ram.1
        have e2 := hs.sec.1
        have e3 := hn2.2.2.1.1
        have e4 := hn3.2.2.1.1
        refine ⟨q0, by omega, by omega, ?_, q5, q6, q7, by omega⟩
        cases hL : s.locked <;> rw [hL] at q4 <;> simp only [cond_true, cond_false] at q4 ⊢ <;> omega
      refine ⟨⟨p1, by omega, hn2.2.2.1, hn3.2.2.1, p4, p6, ⟨by show t.dl ≤ x.l; omega, by show t.il ≤ x.l; omega, by show t.name.size ≤ x.l; omega⟩, hnu, rfl, hn4u, fun hlk => ?_, ?_, ?_⟩, Sub.refl _, hn.1, fun e he => (by cases he), rfl, hnu0, by show n.l ≤ x.l; omega, fun _ => by show n.l + 3 * 0 ≤ x.l; omega, Nat.zero_le _, ?_⟩
      · have hlk : n4.v ≤ 1 := hlk
        have e4 : n4.v.toNat = cond (n4.v == (1 : Int)) 1 0 := by
          have : n4.v = 0 ∨ n4.v = 1 := by omega
          rcases this with h | h <;> rw [h] <;> rfl
        show ((((([] ++ numB 10 n1.v.toNat) ++ numB 10 n2.v.toNat) ++ numB 10 n3.v.toNat) ++ numB 10 n4.v.toNat) ++ (textB t.dd ++ (textB t.id ++ textB (bytesOf t.name)))) ++ numB 10 n.v.toNat = _
        rw [← hm, e4]
        have : numB 10 478443366774 = [246, 210, 201, 171, 246, 13] := by decide +kernel
        rw [this]
        simp only [headB, List.append_assoc, List.nil_append]
        rfl
      · show x.d = _
        rw [← h2]; exact hsum
      · refine .inr ⟨rfl, rfl, fun s hs he => ?_⟩
        rw [← h2] at he
        exact hk6 s hs he
      · refine .inr ⟨rfl, fun e he => (by cases he), rfl, fun s hs he => ?_⟩
        rw [← h2] at he
        exact ⟨trivial, (hk6 s hs he).1⟩
  refine ⟨fun hpos => ⟨fun hgood => ?_, fun hbad => ?_⟩, fun hpos => ?_⟩
  · have hpos := of_decide_eq_true hpos
    have hgood : n.bad = false := by simpa using hgood
    obtain ⟨g, g1, g2, g3, g4, g5, hS⟩ := head hgood
    have hRn : RdrOk ⟨n.p, n.l, n.c, n.d, n.bad, t.G⟩ := ⟨hn.1, by show n.l ≤ 1000000; omega⟩
    refine ⟨⟨n.p, n.l, n.c, n.d, n.bad, t.G⟩, rfl, rfl, rfl, rfl, Sub.refl _, hRn, fun v hv c vs hc hvs hone => ?_⟩
    have hv : REvPost ⟨n.p, n.l, n.c, n.d, n.bad, t.G⟩ v := hv
    rw [hgood] at hv
    have hS1 := hS.next (by rw [g3]; exact hpos) hv
    have hgR : g.r = R := g2
    have hgG : g.r.G = t.G := by rw [hgR]
    refine ⟨g, ⟨1, v.p, v.l, v.c, v.d, v.bad, [v.e], c, vs, v.G⟩, g4, g3, rfl, rfl, rfl, rfl, rfl, by rw [hgR], by rw [hgR], by rw [hgR], by rw [hgR], by rw [hgR], by rw [hgR], by rw [hgR], by rw [hgR], by rw [hgR], by rw [hgR], rfl, rfl, rfl, rfl, rfl, hvs, Sub.refl _, ⟨hS1, hone, hc, ?_⟩, ?_⟩
    · show c * 3 = 3 * 1 + vs.length
      omega
    intro z hz d
    obtain ⟨zs, zc, ze, zq⟩ := (hz : ParInv g z)
    have hxG : Sub x.G z.G := by
      have := zs.head.sub.trans zs.sub
      rwa [g1] at this
    have zfew := zs.few
    have zlk : g.lk = n4.v := g4
    -- behind the last event
    have fin : ¬ (z.i < g.n ∧ z.bad = false) → (z.bad = true → NoRec (x.d.take k)) ∧ (z.bad = false → (0 < z.l ∨ 1 < g.lk) → NoRec (x.d.take k)) := by
      intro hex
      refine ⟨fun hb => ?_, fun hb hor => ?_⟩
      · rcases zs.sem with ⟨_, h⟩ | ⟨h, _⟩
        · rw [g5] at h; exact h
        · rw [hb] at h; cases h
      · rcases zs.sem with ⟨h, _⟩ | ⟨_, _, _, s3⟩
        · rw [hb] at h; cases h
        · rintro ⟨s, hs, he⟩
          rw [← g5] at he
          obtain ⟨_, t2⟩ := s3 s hs he
          obtain ⟨_, n2⟩ := zs.head.cur.elim (fun h => by cases h.1) fun h => h.2.2 s hs he
          obtain ⟨_, _, m3, _, _, _, m7⟩ := n2
          have hel := hs.el
          have hii := zs.hi
          have hle := zs.le
          have hni : ¬ z.i < g.n := fun h => hex ⟨h, hb⟩
          rcases hor with hor | hor
          · rw [List.drop_of_length_le (by omega)] at t2
            have := zs.bs.len
            rw [t2] at this
            simp only [evsB, List.length_nil] at this
            omega
          · cases hL : s.locked <;> rw [hL] at m3 <;> simp only [cond_true, cond_false] at m3 <;> omega
    have ok : ¬ (z.i < g.n ∧ z.bad = false) → z.bad = false → z.l = 0 → g.lk ≤ 1 → ZPost x { g.r with ep := Option.none, el := z.es.length, ec := z.ec, evs := z.es, G := z.G } := by
      intro hex hb h0 h1
      have zs' := zs
      rw [hb] at zs'
      have := zs'.done (fun h => hex ⟨h, hb⟩) h0 h1 Option.none z.ec
      rwa [g1] at this
    have two : ¬ (z.i < g.n ∧ z.bad = false) → _ := fun hex => And.intro (fin hex) (ok hex)
    refine ⟨fun hlt => ⟨fun hgd => ?_, fun hbd => ?_⟩, fun hge => ?_⟩
    · -- one more
      have hlt := of_decide_eq_true hlt
      have hgd : z.bad = false := by simpa using hgd
      have zl := zs.hl
      have gl := zs.head.l
      refine ⟨⟨z.p, z.l, z.c, z.d, z.bad, z.G⟩, rfl, rfl, rfl, rfl, Sub.refl _, ⟨zs.bs, by show z.l ≤ 1000000; omega⟩, fun v hv => ⟨rfl, rfl, rfl, rfl, by omega, fun _ => ⟨by omega, fun _ => ⟨by omega, fun _ => ⟨?_, fun _ => ⟨ze, fun _ c vs hc hvs hone r hr => ?_⟩⟩⟩⟩⟩⟩
      · omega
      · have hv : REvPost ⟨z.p, z.l, z.c, z.d, z.bad, z.G⟩ v := hv
        have zs' := zs
        rw [hgd] at hv zs'
        have hS2 := zs'.next hlt hv
        have hgn : g.n = n.v := g3
        have er : r = z.i + 1 := by
          have := zs.hi
          rw [hr, wu64]; omega
        refine ⟨⟨z.i + 1, v.p, v.l, v.c, v.d, v.bad, z.es ++ [v.e], c, vs, v.G⟩, ⟨hS2, hone, by simpa using hc, ?_⟩, ?_, rfl, rfl, er.symm, rfl, rfl, rfl, rfl, rfl, rfl, rfl, rfl, rfl, rfl, rfl, rfl, rfl, rfl, by simp, rfl, ?_, by simp; omega, rfl, hvs, Sub.refl _, trivial⟩
        · show c * 3 = 3 * (z.es ++ [v.e]).length + vs.length
          simp only [List.length_append, List.length_cons, List.length_nil]
          omega
        · show (g.n - (z.i + 1)).toNat < (g.n - z.i).toNat
          omega
        · show evsCells (z.es ++ [v.e]) = _
          rw [evsCells_append]
          rfl
    · have hbd : z.bad = true := by simpa using hbd
      refine ⟨fun _ => .inl (bad6 hxG (((two fun h => by rw [hbd] at h; cases h.2).1).1 hbd)), fun h => ?_⟩
      rw [hbd] at h; cases h
    · have hge := of_decide_eq_false hge
      have hex : ¬ (z.i < g.n ∧ z.bad = false) := fun h => hge h.1
      obtain ⟨⟨f1, f2⟩, f3⟩ := two hex
      refine ⟨fun hb => .inl (bad6 hxG (f1 hb)), fun hb => ⟨fun h0 => .inl (bad6 hxG (f2 hb (.inl (by have := of_decide_eq_true h0; omega)))), fun h0 => ⟨fun h1 => .inl (bad6 hxG (f2 hb (.inr (of_decide_eq_true h1)))), fun h1 => .inr ?_⟩⟩⟩
      have h0 := of_decide_eq_false h0
      have h1 := of_decide_eq_false h1
      exact ⟨⟨{ g.r with ep := Option.none, el := z.es.length, ec := z.ec, evs := z.es, G := z.G }, z.vs⟩, f3 hb (by omega) (by omega), rfl, rfl, rfl, rfl, rfl, rfl, rfl, rfl, rfl, rfl, rfl, rfl, rfl, rfl, rfl, rfl, Sub.refl _, trivial⟩
  · have hbad : n.bad = true := by simpa using hbad
    refine ⟨fun _ => .inl (bad6 p1 (by rw [hbad] at c6; exact c6.bad)), fun h => ?_⟩
    rw [hbad] at h; cases h
  · have hpos := of_decide_eq_false hpos
    refine ⟨fun hb => .inl (bad6 p1 (by rw [hb] at c6; exact c6.bad)), fun hb => ?_⟩
    obtain ⟨g, g1, g2, g3, g4, g5, hS⟩ := head hb
    have hn0 : n.v = 0 := by omega
    have no : (0 < n.l ∨ 1 < n4.v) → NoRec (x.d.take k) := by
      intro hor
      refine c6.no fun _ s hs _ hd q => ?_
      obtain ⟨⟨⟨⟨_, _⟩, q4⟩, _, _, _⟩, q8⟩ := q
      have hel := hs.el
      rcases hor with hor | hor
      · have : s.evs = [] := List.eq_nil_of_length_eq_zero (by omega)
        rw [this] at hd
        have hh := hn.1.len
        rw [hd] at hh
        simp only [evsB, List.length_nil] at hh
        omega
      · cases hL : s.locked <;> rw [hL] at q4 <;> simp only [cond_true, cond_false] at q4 <;> omega
    refine ⟨fun h0 => .inl (bad6 p1 (no (.inl (by have := of_decide_eq_true h0; omega)))), fun h0 => ⟨fun h1 => .inl (bad6 p1 (no (.inr (of_decide_eq_true h1)))), fun h1 => .inl ?_⟩⟩
    have h0 := of_decide_eq_false h0
    have h1 : ¬ (1 : Int) < n4.v := of_decide_eq_false h1
    have hz := hS.done (by rw [g3]; omega) (by omega) (by rw [g4]; omega) Option.none 0
    rw [g1, g2] at hz
    obtain ⟨z1, z2, z3, z4, z5, z6⟩ := hz
    refine ⟨⟨R, 0⟩, ⟨z1, ⟨z2.ram, z2.sec, z2.disk, z2.image, z2.evLen, .inl ⟨rfl, rfl⟩, z2.evs, z2.name, z2.evBig⟩, z3, .inl ⟨rfl, z4, z5, z6⟩⟩, rfl, rfl, rfl, rfl, rfl, rfl, rfl, rfl, rfl, rfl, rfl, rfl, rfl, rfl, Sub.refl _, trivial⟩
theorem call17_ok (f : Nat) : SpecOk Tryz.prog f (call17 f) := by
  unfold call17
  cases h1 : Nat.beq f 49
  · cases h2 : Nat.beq f 44
    · cases h3 : Nat.beq f 50
      · cases h4 : Nat.beq f 51
        · cases h5 : Nat.beq f 52
          · exact noSpec_ok _ f
          · have := beq_t h5
            subst this
            exact spec52
        · have := beq_t h4
          subst this
          exact spec51
      · have := beq_t h3
        subst this
        exact spec50
    · have := beq_t h2
      subst this
      exact spec44G
  · have := beq_t h1
    subst this
    exact spec49
theorem ways17_ok : WaysOk Tryz.prog ways17 := by
  refine ⟨fun _ => peel_ok (famL_ok parL _), fun i => ?_⟩
  show PieceOk Tryz.prog (bif Nat.beq i 9 then par9P.twin else fun bx => bx)
  cases Nat.beq i 9
  · exact PieceOk.id _
  · exact PieceS.ok _ _
theorem spec17 : SpecOk Tryz.prog 17 conParse.spec :=
  Con.soundAlt frzPar (bodyW_ok call17_ok ways17_ok (fun vs w => Tryz.call17 vs w)) parse_ok
end Sw
end
section
/- gdb.Hex, gdb.value, gdb.Unhex and the document's: what they do. -/
namespace Sw
set_option maxRecDepth 100000
open Go Go.Proofs Vx

/-- A digit of a number below 16. -/
def hexD (n : Int) : Int := if n < 10 then 48 + n else 87 + n
def hexL : List Int → List Int
  | [] => []
  | b :: r => hexD (b / 16) :: hexD (b % 16) :: hexL r
/-- A digit's number. -/
def hexV (c : Int) : Option Int :=
  if 48 ≤ c ∧ c ≤ 57 then some (c - 48) else if 97 ≤ c ∧ c ≤ 102 then some (c - 87) else if 65 ≤ c ∧ c ≤ 70 then some (c - 55) else none
def unhexL : List Int → Option (List Int)
  | [] => some []
  | [_] => none
  | a :: b :: r => match hexV a, hexV b, unhexL r with
    | some x, some y, some l => some ((16 * x + y) :: l)
    | _, _, _ => none
structure ByteX where
  c : Int
  G : Nat → Option Obj
structure ValY where
  v : Int
  ok : Bool
def conVal : Con where
  X := ByteX
  n := 0
  args x := [.int .u8 (.v x.c)]
  heap _ := []
  G x := x.G
  pre x := IsByte x.c
  Y := ValY
  m := 0
  post x y := hexV x.c = bif y.ok then some y.v else none
  res _ y := .tup (.cons (.int .u8 (.v y.v)) (.cons (.bool (.v y.ok)) .nil))
  heap' _ _ := []
  G' x _ := x.G
noncomputable def body67 : SpecT := body (fun _ => noSpec) (fun _ bx => iter bx 0) 67
def conRVal : Con where
  X := ByteX
  n := 0
  args x := [.int .u8 (.v x.c)]
  heap _ := []
  G x := x.G
  pre x := IsByte x.c
  Y := Int
  m := 0
  post x y := y = (hexV x.c).getD 99
  res _ y := .int .i64 (.v y)
  heap' _ _ := []
  G' x _ := x.G
structure RValI where
  i : Nat
def smallD : ByteArray := ⟨#[48, 49, 50, 51, 52, 53, 54, 55, 56, 57, 97, 98, 99, 100, 101, 102]⟩
def greatD : ByteArray := ⟨#[48, 49, 50, 51, 52, 53, 54, 55, 56, 57, 65, 66, 67, 68, 69, 70]⟩
def rvalL (x : ByteX) : LoopS where
  X := RValI
  f := 0
  m := 0
  tmps z := [(0, .int .u8 (.v x.c)), (3, .int .i64 (.v z.i))]
  heap _ := []
  G _ := x.G
  inv z := z.i ≤ 16 ∧ ∀ j, j < z.i → byteAt smallD j ≠ x.c ∧ byteAt greatD j ≠ x.c
  mea z := 16 - z.i
noncomputable def body68 : SpecT := body (fun _ => noSpec) (fun _ => famL rvalL) 68
structure HexI where
  i : Nat
  vs : List Value
def hexLoop (x : BsX) : LoopS where
  X := HexI
  f := 0
  m := 1
  tmps z := [(3, obs 0 (hexL (x.d.take z.i)) z.vs), (10, .gsl x.p (.v x.l) (.v x.c)), (11, .int .i64 (.v x.l)), (12, .int .i64 (.v z.i))]
  heap z := [(0, obh .u8 5 (hexL (x.d.take z.i)) z.vs)]
  G _ := x.G
  inv z := z.i ≤ x.l ∧ Bs x.G x.p x.l x.c x.d ∧ x.l ≤ 1000000
  mea z := x.l - z.i
def conHex : Con where
  X := BsX
  n := 0
  args x := [.gsl x.p (.v x.l) (.v x.c)]
  heap _ := []
  G x := x.G
  pre x := Bs x.G x.p x.l x.c x.d ∧ x.l ≤ 1000000
  Y := ByteArray
  m := 0
  post x y := y = strOf (hexL x.d)
  res _ y := .str (.v y)
  heap' _ _ := []
  G' x _ := x.G
noncomputable def body27 : SpecT := body (fun _ => noSpec) (fun _ => famL hexLoop) 27
structure RHexI where
  i : Nat
  s : ByteArray
def rhexLoop (x : BsX) : LoopS where
  X := RHexI
  f := 0
  m := 0
  tmps z := [(0, .gsl x.p (.v x.l) (.v x.c)), (3, .str (.v z.s)), (4, .int .i64 (.v z.i))]
  heap _ := []
  G _ := x.G
  inv z := z.i ≤ x.l ∧ z.s = strOf (hexL (x.d.take z.i)) ∧ Bs x.G x.p x.l x.c x.d ∧ x.l ≤ 1000000
  mea z := x.l - z.i
noncomputable def body29 : SpecT := body (fun _ => noSpec) (fun _ => famL rhexLoop) 29
end Sw
end
section
/- What GdHex2's conditions come to, word for word: made by a program. -/
set_option maxRecDepth 100000
set_option linter.unusedVariables false
namespace Sw
open Go Go.Proofs Vx
theorem val_vc : (conVal.Vc body67) = (
∀ (x : Sw.ByteX), Sw.conVal.pre x →
 (Decidable.decide (x.c ≥ (48 : Int)) = Bool.true →
 (Decidable.decide (x.c ≤ (57 : Int)) = Bool.true →
 ∀ (r : Int), r = Go.IntKind.u8.wrap (x.c - (48 : Int)) →
 ∃ (y : Sw.ValY), Sw.conVal.post x y ∧ y.v = r ∧ y.ok = Bool.true ∧ Vx.Sub (Sw.conVal.G' x y) x.G ∧ True) ∧
 (Decidable.decide (x.c ≤ (57 : Int)) = Bool.false →
 (Decidable.decide (x.c ≥ (97 : Int)) = Bool.true →
 (Decidable.decide (x.c ≤ (102 : Int)) = Bool.true →
 ∀ (r : Int), r = Go.IntKind.u8.wrap (x.c - (97 : Int)) →
 ∀ (r_1 : Int), r_1 = Go.IntKind.u8.wrap (r + (10 : Int)) →
 ∃ (y : Sw.ValY), Sw.conVal.post x y ∧ y.v = r_1 ∧ y.ok = Bool.true ∧ Vx.Sub (Sw.conVal.G' x y) x.G ∧ True) ∧
 (Decidable.decide (x.c ≤ (102 : Int)) = Bool.false →
 (Decidable.decide (x.c ≥ (65 : Int)) = Bool.true →
 (Decidable.decide (x.c ≤ (70 : Int)) = Bool.true →
 ∀ (r : Int), r = Go.IntKind.u8.wrap (x.c - (65 : Int)) →
 ∀ (r_1 : Int), r_1 = Go.IntKind.u8.wrap (r + (10 : Int)) →
 ∃ (y : Sw.ValY), Sw.conVal.post x y ∧ y.v = r_1 ∧ y.ok = Bool.true ∧ Vx.Sub (Sw.conVal.G' x y) x.G ∧ True) ∧
 (Decidable.decide (x.c ≤ (70 : Int)) = Bool.false →
 ∃ (y : Sw.ValY), Sw.conVal.post x y ∧ y.v = (0 : Int) ∧ y.ok = Bool.false ∧ Vx.Sub (Sw.conVal.G' x y) x.G ∧ True)) ∧
 (Decidable.decide (x.c ≥ (65 : Int)) = Bool.false →
 ∃ (y : Sw.ValY), Sw.conVal.post x y ∧ y.v = (0 : Int) ∧ y.ok = Bool.false ∧ Vx.Sub (Sw.conVal.G' x y) x.G ∧ True))) ∧
 (Decidable.decide (x.c ≥ (97 : Int)) = Bool.false →
 (Decidable.decide (x.c ≥ (65 : Int)) = Bool.true →
 (Decidable.decide (x.c ≤ (70 : Int)) = Bool.true →
 ∀ (r : Int), r = Go.IntKind.u8.wrap (x.c - (65 : Int)) →
 ∀ (r_1 : Int), r_1 = Go.IntKind.u8.wrap (r + (10 : Int)) →
 ∃ (y : Sw.ValY), Sw.conVal.post x y ∧ y.v = r_1 ∧ y.ok = Bool.true ∧ Vx.Sub (Sw.conVal.G' x y) x.G ∧ True) ∧
 (Decidable.decide (x.c ≤ (70 : Int)) = Bool.false →
 ∃ (y : Sw.ValY), Sw.conVal.post x y ∧ y.v = (0 : Int) ∧ y.ok = Bool.false ∧ Vx.Sub (Sw.conVal.G' x y) x.G ∧ True)) ∧
 (Decidable.decide (x.c ≥ (65 : Int)) = Bool.false →
 ∃ (y : Sw.ValY), Sw.conVal.post x y ∧ y.v = (0 : Int) ∧ y.ok = Bool.false ∧ Vx.Sub (Sw.conVal.G' x y) x.G ∧ True)))) ∧
 (Decidable.decide (x.c ≥ (48 : Int)) = Bool.false →
 (Decidable.decide (x.c ≥ (97 : Int)) = Bool.true →
 (Decidable.decide (x.c ≤ (102 : Int)) = Bool.true →
 ∀ (r : Int), r = Go.IntKind.u8.wrap (x.c - (97 : Int)) →
 ∀ (r_1 : Int), r_1 = Go.IntKind.u8.wrap (r + (10 : Int)) →
 ∃ (y : Sw.ValY), Sw.conVal.post x y ∧ y.v = r_1 ∧ y.ok = Bool.true ∧ Vx.Sub (Sw.conVal.G' x y) x.G ∧ True) ∧
 (Decidable.decide (x.c ≤ (102 : Int)) = Bool.false →
 (Decidable.decide (x.c ≥ (65 : Int)) = Bool.true →
 (Decidable.decide (x.c ≤ (70 : Int)) = Bool.true →
 ∀ (r : Int), r = Go.IntKind.u8.wrap (x.c - (65 : Int)) →
 ∀ (r_1 : Int), r_1 = Go.IntKind.u8.wrap (r + (10 : Int)) →
 ∃ (y : Sw.ValY), Sw.conVal.post x y ∧ y.v = r_1 ∧ y.ok = Bool.true ∧ Vx.Sub (Sw.conVal.G' x y) x.G ∧ True) ∧
 (Decidable.decide (x.c ≤ (70 : Int)) = Bool.false →
 ∃ (y : Sw.ValY), Sw.conVal.post x y ∧ y.v = (0 : Int) ∧ y.ok = Bool.false ∧ Vx.Sub (Sw.conVal.G' x y) x.G ∧ True)) ∧
 (Decidable.decide (x.c ≥ (65 : Int)) = Bool.false →
 ∃ (y : Sw.ValY), Sw.conVal.post x y ∧ y.v = (0 : Int) ∧ y.ok = Bool.false ∧ Vx.Sub (Sw.conVal.G' x y) x.G ∧ True))) ∧
 (Decidable.decide (x.c ≥ (97 : Int)) = Bool.false →
 (Decidable.decide (x.c ≥ (65 : Int)) = Bool.true →
 (Decidable.decide (x.c ≤ (70 : Int)) = Bool.true →
 ∀ (r : Int), r = Go.IntKind.u8.wrap (x.c - (65 : Int)) →
 ∀ (r_1 : Int), r_1 = Go.IntKind.u8.wrap (r + (10 : Int)) →
 ∃ (y : Sw.ValY), Sw.conVal.post x y ∧ y.v = r_1 ∧ y.ok = Bool.true ∧ Vx.Sub (Sw.conVal.G' x y) x.G ∧ True) ∧
 (Decidable.decide (x.c ≤ (70 : Int)) = Bool.false →
 ∃ (y : Sw.ValY), Sw.conVal.post x y ∧ y.v = (0 : Int) ∧ y.ok = Bool.false ∧ Vx.Sub (Sw.conVal.G' x y) x.G ∧ True)) ∧
 (Decidable.decide (x.c ≥ (65 : Int)) = Bool.false →
 ∃ (y : Sw.ValY), Sw.conVal.post x y ∧ y.v = (0 : Int) ∧ y.ok = Bool.false ∧ Vx.Sub (Sw.conVal.G' x y) x.G ∧ True)))) := by kernel_rfl
theorem rval_vc : (conRVal.Vc body68) = (
∀ (x : Sw.ByteX), Sw.conRVal.pre x →
 ∃ (g : Sw.ByteX), ∃ (x0 : Sw.RValI), g.c = x.c ∧
 (↑x0.i : Int) = (0 : Int) ∧
 Vx.Sub ((Sw.rvalL g).G x0) x.G ∧
 (Sw.rvalL g).inv x0 ∧
 ∀ (x_1 : Sw.RValI), (Sw.rvalL g).inv x_1 →
 ∀ (d : Nat → Go.Value), (Decidable.decide ((↑x_1.i : Int) < (16 : Int)) = Bool.true →
 ((0 : Int) ≤ (↑x_1.i : Int) ∧ (↑x_1.i : Int) < (16 : Int)) ∧
 ((0 : Int) ≤ (↑x_1.i : Int) ∧ (↑x_1.i : Int) < (16 : Int) →
 ((Vx.byteAt
 (ByteArray.mk
 #[48, 49, 50, 51, 52, 53, 54, 55, 56, 57, 97, 98, 99, 100, 101, 102])
 (↑x_1.i : Int) ==
 g.c) =
 Bool.true →
 ∃ (y : Int), Sw.conRVal.post x y ∧ y = (↑x_1.i : Int) ∧ Vx.Sub (Sw.conRVal.G' x y) g.G ∧ True) ∧
 ((Vx.byteAt
 (ByteArray.mk
 #[48, 49, 50, 51, 52, 53, 54, 55, 56, 57, 97, 98, 99, 100, 101, 102])
 (↑x_1.i : Int) ==
 g.c) =
 Bool.false →
 ((0 : Int) ≤ (↑x_1.i : Int) ∧ (↑x_1.i : Int) < (16 : Int)) ∧
 ((0 : Int) ≤ (↑x_1.i : Int) ∧ (↑x_1.i : Int) < (16 : Int) →
 ((Vx.byteAt
 (ByteArray.mk
 #[48, 49, 50, 51, 52, 53, 54, 55, 56, 57, 65, 66, 67, 68, 69, 70])
 (↑x_1.i : Int) ==
 g.c) =
 Bool.true →
 ∃ (y : Int), Sw.conRVal.post x y ∧ y = (↑x_1.i : Int) ∧ Vx.Sub (Sw.conRVal.G' x y) g.G ∧ True) ∧
 ((Vx.byteAt
 (ByteArray.mk
 #[48, 49, 50, 51, 52, 53, 54, 55, 56, 57, 65, 66, 67, 68, 69, 70])
 (↑x_1.i : Int) ==
 g.c) =
 Bool.false →
 ∀ (r : Int), r = Go.IntKind.i64.wrap ((↑x_1.i : Int) + (1 : Int)) →
 ∃ (x' : Sw.RValI), (Sw.rvalL g).inv x' ∧
 (Sw.rvalL g).mea x' < (Sw.rvalL g).mea x_1 ∧
 g.c = g.c ∧ (↑x'.i : Int) = r ∧ Vx.Sub ((Sw.rvalL g).G x') g.G ∧ True))))) ∧
 (Decidable.decide ((↑x_1.i : Int) < (16 : Int)) = Bool.false →
 ∃ (y : Int), Sw.conRVal.post x y ∧ y = (99 : Int) ∧ Vx.Sub (Sw.conRVal.G' x y) g.G ∧ True)) := by kernel_rfl
theorem hex_vc : (conHex.Vc body27) = (
∀ (x : Sw.BsX), Sw.conHex.pre x →
 ∀ (r : Int), r = Go.IntKind.i64.wrap ((2 : Int) * (↑x.l : Int)) →
 ((0 : Int) ≤ (0 : Int) ∧ (0 : Int) ≤ (↑r.toNat : Int)) ∧
 ((0 : Int) ≤ (0 : Int) ∧ (0 : Int) ≤ (↑r.toNat : Int) →
 ((0 : Int) ≤ r ∧ r ≤ (9223372036854775807 : Int)) ∧
 ((0 : Int) ≤ r ∧ r ≤ (9223372036854775807 : Int) →
 r.toNat ≤ (281474976710656 : Nat) ∧
 (r.toNat ≤ (281474976710656 : Nat) →
 ∀ (vs : List Go.Value), vs.length = (r.toNat - (0 : Nat)) * (1 : Nat) →
 (∀ (v : Go.Value), v ∈ vs → v.oneCell' = Bool.true) →
 ∃ (g : Sw.BsX), ∃ (x0 : Sw.HexI), (Sw.hexL (List.take x0.i g.d)).length = (0 : Nat) ∧
 (Sw.hexL (List.take x0.i g.d)).length + x0.vs.length = r.toNat ∧
 g.p = x.p ∧
 g.l = x.l ∧
 g.c = x.c ∧
 (↑g.l : Int) = (↑x.l : Int) ∧
 (↑x0.i : Int) = (0 : Int) ∧
 Sw.hexL (List.take x0.i g.d) = (Vx.IL.fill (Int.toNat (0 : Int)) (0 : Int) []).den ∧
 (Sw.hexL (List.take x0.i g.d)).length = (0 : Nat) ∧
 x0.vs = vs ∧
 x0.vs.length = r.toNat - (0 : Nat) ∧
 Vx.Sub ((Sw.hexLoop g).G x0) x.G ∧
 (Sw.hexLoop g).inv x0 ∧
 ∀ (x_1 : Sw.HexI), (Sw.hexLoop g).inv x_1 →
 ∀ (d : Nat → Go.Value), (Decidable.decide ((↑x_1.i : Int) < (↑g.l : Int)) = Bool.true →
 ((0 : Int) ≤ (↑x_1.i : Int) ∧ (↑x_1.i : Int) < (↑g.l : Int)) ∧
 ((0 : Int) ≤ (↑x_1.i : Int) ∧ (↑x_1.i : Int) < (↑g.l : Int) →
 ∃ (b : Nat), ∃ (o : Nat), g.p = Option.some (Go.Addr.mk b o Option.none) ∧
 ∃ (x : Int), Vx.Rd g.G b (o + (↑x_1.i : Int).toNat * (1 : Nat))
 [Go.Value.int Go.IntKind.u8 x] ∧
 ∀ (r : Int), r = Vx.shft Go.BinOp.shr Go.IntKind.u8 x (4 : Int) →
 ((0 : Int) ≤ r ∧ r < (16 : Int)) ∧
 ((0 : Int) ≤ r ∧ r < (16 : Int) →
 ∀ (r_1 : Int), r_1 = Vx.bits Go.BinOp.and Go.IntKind.u8 x (15 : Int) →
 ((0 : Int) ≤ r_1 ∧ r_1 < (16 : Int)) ∧
 ((0 : Int) ≤ r_1 ∧ r_1 < (16 : Int) →
 (Sw.hexL (List.take x_1.i g.d)).length + (2 : Nat) ≤
 (140737488355328 : Nat) ∧
 ((Sw.hexL (List.take x_1.i g.d)).length + (2 : Nat) ≤
 (140737488355328 : Nat) →
 (Sw.hexL (List.take x_1.i g.d)).length + (2 : Nat) ≤
 (9223372036854775807 : Nat) ∧
 ((Sw.hexL (List.take x_1.i g.d)).length + (2 : Nat) ≤
 (9223372036854775807 : Nat) →
 (Sw.hexL (List.take x_1.i g.d)).length =
 (Sw.hexL (List.take x_1.i g.d)).length ∧
 ((Sw.hexL (List.take x_1.i g.d)).length =
 (Sw.hexL (List.take x_1.i g.d)).length →
 x_1.vs.length =
 (Sw.hexL (List.take x_1.i g.d)).length +
 x_1.vs.length -
 (Sw.hexL (List.take x_1.i g.d)).length ∧
 (x_1.vs.length =
 (Sw.hexL (List.take x_1.i g.d)).length +
 x_1.vs.length -
 (Sw.hexL (List.take x_1.i g.d)).length →
 (Sw.hexL (List.take x_1.i g.d)).length ≤
 (Sw.hexL (List.take x_1.i g.d)).length +
 x_1.vs.length ∧
 ((Sw.hexL (List.take x_1.i g.d)).length ≤
 (Sw.hexL (List.take x_1.i g.d)).length +
 x_1.vs.length →
 ∀ (c : Nat) (vs : List Go.Value), (Sw.hexL (List.take x_1.i g.d)).length +
 (2 : Nat) ≤
 c →
 vs.length =
 (c -
 ((Sw.hexL
 (List.take x_1.i
 g.d)).length +
 (2 : Nat))) *
 (1 : Nat) →
 (∀ (v : Go.Value), v ∈ vs → v.oneCell' = Bool.true) →
 ∀ (r_2 : Int), r_2 =
 Go.IntKind.i64.wrap
 ((↑x_1.i : Int) +
 (1 : Int)) →
 ∃ (x' : Sw.HexI), (Sw.hexLoop g).inv x' ∧
 (Sw.hexLoop g).mea x' <
 (Sw.hexLoop g).mea x_1 ∧
 (Sw.hexL
 (List.take x'.i
 g.d)).length =
 (Sw.hexL
 (List.take x_1.i
 g.d)).length +
 (2 : Nat) ∧
 (Sw.hexL
 (List.take
 x'.i
 g.d)).length +
 x'.vs.length =
 c ∧
 g.p = g.p ∧
 g.l = g.l ∧
 g.c = g.c ∧
 (↑g.l : Int) =
 (↑g.l :
 Int) ∧
 (↑x'.i :
 Int) =
 r_2 ∧
 Sw.hexL
 (List.take
 x'.i
 g.d) =
 Sw.hexL
 (List.take
 x_1.i
 g.d) ++
 ([Vx.byteAt
 (ByteArray.mk
 #[48, 49, 50, 51, 52, 53, 54, 55, 56, 57, 97, 98, 99, 100, 101, 102])
 r] ++
 [Vx.byteAt
 (ByteArray.mk
 #[48, 49, 50, 51, 52, 53, 54, 55, 56, 57, 97, 98, 99, 100, 101, 102])
 r_1]) ∧
 (Sw.hexL
 (List.take
 x'.i
 g.d)).length =
 (Sw.hexL
 (List.take
 x_1.i
 g.d)).length +
 (2 :
 Nat) ∧
 x'.vs =
 vs ∧
 x'.vs.length =
 (c -
 ((Sw.hexL
 (List.take
 x_1.i
 g.d)).length +
 (2 :
 Nat))) *
 (1 :
 Nat) ∧
 Vx.Sub
 ((Sw.hexLoop
 g).G
 x')
 g.G ∧
 True))))))))) ∧
 (Decidable.decide ((↑x_1.i : Int) < (↑g.l : Int)) = Bool.false →
 (0 : Nat) + (Sw.hexL (List.take x_1.i g.d)).length ≤ (Sw.hexL (List.take x_1.i g.d)).length ∧
 ((0 : Nat) + (Sw.hexL (List.take x_1.i g.d)).length ≤
 (Sw.hexL (List.take x_1.i g.d)).length →
 ∀ (ys : List Int), ys =
 List.take (Sw.hexL (List.take x_1.i g.d)).length
 (List.drop (0 : Nat) (Sw.hexL (List.take x_1.i g.d))) →
 ∀ (r : ByteArray), r = Vx.strOf (ys ++ []) →
 ∃ (y : ByteArray), Sw.conHex.post x y ∧ y = r ∧ Vx.Sub (Sw.conHex.G' x y) g.G ∧ True)))))) := by kernel_rfl
theorem rhex_vc : (conHex.Vc body29) = (
∀ (x : Sw.BsX), Sw.conHex.pre x →
 ∃ (g : Sw.BsX), ∃ (x0 : Sw.RHexI), g.p = x.p ∧
 g.l = x.l ∧
 g.c = x.c ∧
 x0.s = ByteArray.mk #[] ∧
 (↑x0.i : Int) = (0 : Int) ∧
 Vx.Sub ((Sw.rhexLoop g).G x0) x.G ∧
 (Sw.rhexLoop g).inv x0 ∧
 ∀ (x_1 : Sw.RHexI), (Sw.rhexLoop g).inv x_1 →
 ∀ (d : Nat → Go.Value), (Decidable.decide ((↑x_1.i : Int) < (↑g.l : Int)) = Bool.true →
 ((0 : Int) ≤ (↑x_1.i : Int) ∧ (↑x_1.i : Int) < (↑g.l : Int)) ∧
 ((0 : Int) ≤ (↑x_1.i : Int) ∧ (↑x_1.i : Int) < (↑g.l : Int) →
 ∃ (b : Nat), ∃ (o : Nat), g.p = Option.some (Go.Addr.mk b o Option.none) ∧
 ∃ (x : Int), Vx.Rd g.G b (o + (↑x_1.i : Int).toNat * (1 : Nat)) [Go.Value.int Go.IntKind.u8 x] ∧
 ∀ (r : Int), r = Go.IntKind.u8.wrap (x.tdiv (16 : Int)) →
 ((0 : Int) ≤ (↑x_1.i : Int) ∧ (↑x_1.i : Int) < (↑g.l : Int)) ∧
 ((0 : Int) ≤ (↑x_1.i : Int) ∧ (↑x_1.i : Int) < (↑g.l : Int) →
 ∃ (b : Nat), ∃ (o : Nat), g.p = Option.some (Go.Addr.mk b o Option.none) ∧
 ∃ (x : Int), Vx.Rd g.G b (o + (↑x_1.i : Int).toNat * (1 : Nat)) [Go.Value.int Go.IntKind.u8 x] ∧
 ∀ (r_1 : Int), r_1 = Go.IntKind.u8.wrap (x.tdiv (16 : Int)) →
 ∀ (r_2 : Int), r_2 = Go.IntKind.u8.wrap (r_1 + (1 : Int)) →
 ((0 : Int) ≤ r_2 ∧ r_2 ≤ (16 : Int)) ∧
 ((0 : Int) ≤ r_2 ∧ r_2 ≤ (16 : Int) →
 ((0 : Int) ≤ r ∧ r ≤ (↑r_2.toNat : Int)) ∧
 ((0 : Int) ≤ r ∧ r ≤ (↑r_2.toNat : Int) →
 ∀ (r_3 : ByteArray), r_3 =
 (ByteArray.mk
 #[48, 49, 50, 51, 52, 53, 54, 55, 56, 57, 97, 98, 99, 100, 101, 102]).extract
 r.toNat r_2.toNat →
 (↑(x_1.s.size + r_3.size) : Int) ≤ (9223372036854775807 : Int) ∧
 ∀ (r : ByteArray), r = x_1.s ++ r_3 →
 ((0 : Int) ≤ (↑x_1.i : Int) ∧ (↑x_1.i : Int) < (↑g.l : Int)) ∧
 ((0 : Int) ≤ (↑x_1.i : Int) ∧ (↑x_1.i : Int) < (↑g.l : Int) →
 ∃ (b : Nat), ∃ (o : Nat), g.p = Option.some (Go.Addr.mk b o Option.none) ∧
 ∃ (x : Int), Vx.Rd g.G b (o + (↑x_1.i : Int).toNat * (1 : Nat))
 [Go.Value.int Go.IntKind.u8 x] ∧
 ∀ (r_4 : Int), r_4 = x.tmod (16 : Int) →
 ((0 : Int) ≤ (↑x_1.i : Int) ∧
 (↑x_1.i : Int) < (↑g.l : Int)) ∧
 ((0 : Int) ≤ (↑x_1.i : Int) ∧
 (↑x_1.i : Int) < (↑g.l : Int) →
 ∃ (b : Nat), ∃ (o : Nat), g.p =
 Option.some
 (Go.Addr.mk b o Option.none) ∧
 ∃ (x : Int), Vx.Rd g.G b
 (o +
 (↑x_1.i : Int).toNat * (1 : Nat))
 [Go.Value.int Go.IntKind.u8 x] ∧
 ∀ (r_5 : Int), r_5 = x.tmod (16 : Int) →
 ∀ (r_6 : Int), r_6 =
 Go.IntKind.u8.wrap
 (r_5 + (1 : Int)) →
 ((0 : Int) ≤ r_6 ∧
 r_6 ≤ (16 : Int)) ∧
 ((0 : Int) ≤ r_6 ∧
 r_6 ≤ (16 : Int) →
 ((0 : Int) ≤ r_4 ∧
 r_4 ≤
 (↑r_6.toNat :
 Int)) ∧
 ((0 : Int) ≤ r_4 ∧
 r_4 ≤
 (↑r_6.toNat :
 Int) →
 ∀ (r_7 : ByteArray), r_7 =
 (ByteArray.mk
 #[48, 49, 50, 51, 52, 53, 54, 55, 56, 57, 97, 98, 99, 100, 101, 102]).extract
 r_4.toNat
 r_6.toNat →
 (↑(r.size +
 r_7.size) :
 Int) ≤
 (9223372036854775807 :
 Int) ∧
 ∀
 (r_8 :
 ByteArray), r_8 =
 r ++ r_7 →
 ∀ (r : Int), r =
 Go.IntKind.i64.wrap
 ((↑x_1.i :
 Int) +
 (1 :
 Int)) →
 ∃ (x' :
 Sw.RHexI), (Sw.rhexLoop
 g).inv
 x' ∧
 (Sw.rhexLoop
 g).mea
 x' <
 (Sw.rhexLoop
 g).mea
 x_1 ∧
 g.p =
 g.p ∧
 g.l =
 g.l ∧
 g.c =
 g.c ∧
 x'.s =
 r_8 ∧
 (↑x'.i :
 Int) =
 r ∧
 Vx.Sub
 ((Sw.rhexLoop
 g).G
 x')
 g.G ∧
 True))))))))) ∧
 (Decidable.decide ((↑x_1.i : Int) < (↑g.l : Int)) = Bool.false →
 ∃ (y : ByteArray), Sw.conHex.post x y ∧ y = x_1.s ∧ Vx.Sub (Sw.conHex.G' x y) g.G ∧ True)) := by kernel_rfl
end Sw
end
section
/- gdb.Hex, gdb.value and the document's do what is said. -/
namespace Sw
set_option maxRecDepth 100000
open Go Go.Proofs Vx

theorem ok_ {p q : Prop} (hp : p) (h : q) : p ∧ (p → q) := ⟨hp, fun _ => h⟩
theorem eq_b {a b : Int} (h : (a == b) = true) : a = b := eq_of_beq h
theorem ne_b {a b : Int} (h : (a == b) = false) : a ≠ b := by simpa using h
theorem val_ok : conVal.Vc body67 := by
  rw [val_vc]
  intro x hx
  obtain ⟨h0, h1⟩ := (hx : IsByte x.c)
  simp only [decide_eq_true_eq, decide_eq_false_iff_not, IntKind.wrap_u8']
  repeat' first | apply And.intro | intro _
  all_goals refine ⟨⟨_, _⟩, ?_, rfl, rfl, Sub.refl _, trivial⟩
  all_goals
    show hexV x.c = _
    simp only [hexV, cond_true, cond_false]
    repeat' split
    all_goals first | rfl | (exfalso; omega) | (congr 1; omega)
theorem spec67 : SpecOk Tryz.prog 67 conVal.spec :=
  Con.sound (body_ok (fun f => noSpec_ok _ f) (iter_ways 0) (fun vs w => Tryz.call67 vs w)) val_ok

theorem smallD_at (j : Nat) (h : j < 16) : byteAt smallD j = hexD j := by
  have : ∀ j : Fin 16, byteAt smallD (j.val : Int) = hexD (j.val : Int) := by decide
  exact this ⟨j, h⟩
theorem greatD_at (j : Nat) (h : j < 16) : byteAt greatD j = if j < 10 then 48 + (j : Int) else 55 + (j : Int) := by
  have : ∀ j : Fin 16, byteAt greatD (j.val : Int) = if j.val < 10 then 48 + (j.val : Int) else 55 + (j.val : Int) := by decide
  exact this ⟨j, h⟩
theorem rval_ok : conRVal.Vc body68 := by
  rw [rval_vc]
  intro x hx
  obtain ⟨hc0, hc1⟩ := (hx : IsByte x.c)
  refine ⟨x, ⟨0⟩, rfl, rfl, Sub.refl _, ⟨by show 0 ≤ 16; omega, fun j hj => by have : j < 0 := hj; omega⟩, fun z hz d => ?_⟩
  obtain ⟨h1, h2⟩ := (hz : z.i ≤ 16 ∧ ∀ j, j < z.i → byteAt smallD j ≠ x.c ∧ byteAt greatD j ≠ x.c)
  have hit : z.i < 16 → (byteAt smallD z.i = x.c ∨ byteAt greatD z.i = x.c) → (z.i : Int) = (hexV x.c).getD 99 := by
    intro hi hb
    rw [smallD_at _ hi, greatD_at _ hi] at hb
    unfold hexV
    have : hexD z.i = if z.i < 10 then 48 + z.i else 87 + z.i := by
      unfold hexD; split <;> split <;> omega
    rw [this] at hb
    rcases hb with hb | hb <;> split at hb <;> (repeat' split) <;> simp only [Option.getD_some, Option.getD_none] <;> omega
  refine ⟨fun hb => ?_, fun hb => ?_⟩
  · have hb := of_decide_eq_true hb
    refine ok_ (by omega) ⟨fun he => ⟨_, hit (by omega) (.inl (eq_b he)), rfl, Sub.refl _, trivial⟩, fun hne => ok_ (by omega) ⟨fun he => ⟨_, hit (by omega) (.inr (eq_b he)), rfl, Sub.refl _, trivial⟩, fun hne' r hr => ⟨⟨z.i + 1⟩, ⟨by show z.i + 1 ≤ 16; omega, fun j hj => ?_⟩, ?_, rfl, ?_, Sub.refl _, trivial⟩⟩⟩
    · have hj : j < z.i + 1 := hj
      rcases Nat.lt_or_ge j z.i with h | h
      · exact h2 j h
      · have : j = z.i := by omega
        subst this
        exact ⟨ne_b hne, ne_b hne'⟩
    · show 16 - (z.i + 1) < 16 - z.i
      omega
    · rw [hr, w64 _ (by omega) (by omega)]; rfl
  · have hb := of_decide_eq_false hb
    refine ⟨_, ?_, rfl, Sub.refl _, trivial⟩
    show (99 : Int) = (hexV x.c).getD 99
    have hno : ∀ j : Nat, j < 16 → x.c ≠ hexD j ∧ x.c ≠ (if j < 10 then 48 + (j : Int) else 55 + j) := fun j hj => by
      have := h2 j (by omega)
      rw [smallD_at _ hj, greatD_at _ hj] at this
      exact ⟨fun e => this.1 e.symm, fun e => this.2 e.symm⟩
    unfold hexV
    have key : ∀ j : Nat, j < 16 → x.c ≠ (if (j : Int) < 10 then 48 + (j : Int) else 87 + j) ∧ x.c ≠ (if j < 10 then 48 + (j : Int) else 55 + j) := hno
    split
    · have := (key (x.c - 48).toNat (by omega)).1
      rw [if_pos (by omega)] at this
      omega
    · split
      · have := (key (x.c - 87).toNat (by omega)).1
        rw [if_neg (by omega)] at this
        omega
      · split
        · have := (key (x.c - 55).toNat (by omega)).2
          rw [if_neg (by omega)] at this
          omega
        · rfl
theorem spec68 : SpecOk Tryz.prog 68 conRVal.spec :=
  Con.sound (body_ok (fun f => noSpec_ok _ f) (fun _ => (famL_ok rvalL _).ok) (fun vs w => Tryz.call68 vs w)) rval_ok

theorem hexL_len : ∀ l : List Int, (hexL l).length = 2 * l.length
  | [] => rfl
  | b :: r => by simp only [hexL, List.length_cons, hexL_len r]; omega
theorem hexL_app : ∀ a b : List Int, hexL (a ++ b) = hexL a ++ hexL b
  | [], b => rfl
  | x :: a, b => by simp only [List.cons_append, hexL, hexL_app a b]
theorem shr4 {b : Int} (h : IsByte b) : shft .shr .u8 b 4 = b / 16 := by
  obtain ⟨h1, h2⟩ := h
  show b.fdiv (2 ^ (min (4 : Int).toNat 8)) = b / 16
  rw [Int.fdiv_eq_ediv_of_nonneg _ (by decide)]
  rfl
theorem and15 {b : Int} (h : IsByte b) : Vx.bits .and .u8 b 15 = b % 16 := by
  obtain ⟨h1, h2⟩ := h
  obtain ⟨n, rfl⟩ := Int.eq_ofNat_of_zero_le h1
  rw [bits_eq, show (15 : Int) = ((15 : Nat) : Int) from rfl, u8_and_nat _ _ (by omega) (by decide)]
  have : n &&& 15 = n % 16 := Nat.and_two_pow_sub_one_eq_mod n 4
  rw [this]; omega
theorem digit_at (r : Int) (h0 : 0 ≤ r) (h1 : r < 16) : byteAt smallD r = hexD r := by
  obtain ⟨n, rfl⟩ := Int.eq_ofNat_of_zero_le h0
  exact smallD_at n (by omega)
theorem rd_byte {x : BsX} (hb : Bs x.G x.p x.l x.c x.d) {i : Nat} (hi : i < x.l) : ∃ bk o, x.p = some ⟨bk, o, none⟩ ∧ Rd x.G bk (o + (i : Int).toNat * 1) [.int .u8 (x.d.getD i 0)] ∧ IsByte (x.d.getD i 0) := by
  obtain ⟨bk, o, h1, h2, h3⟩ := hb.nth hi
  refine ⟨bk, o, h1, ?_, h3⟩
  have : o + (i : Int).toNat * 1 = o + i := by omega
  rw [this]; exact h2
theorem hexL_step {x : BsX} (hb : Bs x.G x.p x.l x.c x.d) {i : Nat} (hi : i < x.l) :
    hexL (x.d.take (i + 1)) = hexL (x.d.take i) ++ [hexD (x.d.getD i 0 / 16), hexD (x.d.getD i 0 % 16)] := by
  have hid : i < x.d.length := by rw [hb.len]; exact hi
  rw [take_succ' _ _ hid, hexL_app, getD_eq _ _ _ hid]
  rfl
theorem hex_ok : conHex.Vc body27 := by
  rw [hex_vc]
  intro x hx r hr
  obtain ⟨hb, hl⟩ := (hx : Bs x.G x.p x.l x.c x.d ∧ x.l ≤ 1000000)
  rw [w64 _ (by omega) (by omega)] at hr
  refine ok_ (by omega) (ok_ (by omega) (ok_ (by omega) fun vs hvs hone => ⟨x, ⟨0, vs⟩, rfl, ?_, rfl, rfl, rfl, rfl, rfl, rfl, rfl, rfl, ?_, Sub.refl _, ⟨Nat.zero_le _, hb, hl⟩, fun z hz d => ?_⟩))
  · simp [hexL, hvs]
  · simp [hvs]
  obtain ⟨h1, _, _⟩ := (hz : z.i ≤ x.l ∧ Bs x.G x.p x.l x.c x.d ∧ x.l ≤ 1000000)
  have hlen : (hexL (x.d.take z.i)).length = 2 * z.i := by rw [hexL_len, List.length_take, hb.len]; omega
  refine ⟨fun hlt => ?_, fun hge => ?_⟩
  · have hlt := of_decide_eq_true hlt
    obtain ⟨bk, o, e1, e2, e3⟩ := rd_byte hb (i := z.i) (by omega)
    have e3' := e3
    obtain ⟨b0, b1⟩ := e3
    refine ok_ (by omega) ⟨bk, o, e1, _, e2, fun r1 hr1 => ?_⟩
    rw [shr4 e3'] at hr1
    refine ok_ (by omega) fun r2 hr2 => ?_
    rw [and15 e3'] at hr2
    refine ok_ (by omega) (ok_ (by omega) (ok_ (by omega) (ok_ rfl (ok_ (by omega) (ok_ (by omega) fun c ws hc hws hone' r3 hr3 => ?_)))))
    rw [w64 _ (by omega) (by omega)] at hr3
    have hst := hexL_step hb (i := z.i) (by omega)
    have hl' : (hexL (x.d.take (z.i + 1))).length = 2 * z.i + 2 := by rw [hst]; simp [hlen]
    refine ⟨⟨z.i + 1, ws⟩, ⟨by show z.i + 1 ≤ x.l; omega, hb, hl⟩, ?_, ?_, ?_, rfl, rfl, rfl, rfl, ?_, ?_, ?_, rfl, ?_, Sub.refl _, trivial⟩
    · show x.l - (z.i + 1) < x.l - z.i; omega
    · show (hexL (x.d.take (z.i + 1))).length = _
      rw [hl', hlen]
    · show (hexL (x.d.take (z.i + 1))).length + ws.length = c
      rw [hl', hws, hlen]; omega
    · show ((z.i + 1 : Nat) : Int) = r3; omega
    · show hexL (x.d.take (z.i + 1)) = _
      have k1 := digit_at r1 (by omega) (by omega)
      have k2 := digit_at r2 (by omega) (by omega)
      unfold smallD at k1 k2
      rw [hst, k1, k2, hr1, hr2]; rfl
    · show (hexL (x.d.take (z.i + 1))).length = _
      rw [hl', hlen]
    · exact hws
  · have hge := of_decide_eq_false hge
    have hall : z.i = x.d.length := by rw [hb.len]; omega
    refine ok_ (by omega) fun ys hys s hs => ⟨s, ?_, rfl, Sub.refl _, trivial⟩
    show s = strOf (hexL x.d)
    rw [hs, hys, hall, List.take_length, List.drop_zero, List.take_length, List.append_nil]
theorem spec27 : SpecOk Tryz.prog 27 conHex.spec :=
  Con.sound (body_ok (fun f => noSpec_ok _ f) (fun _ => (famL_ok hexLoop _).ok) (fun vs w => Tryz.call27 vs w)) hex_ok

/-! ### Texts -/
theorem strOf_bytesOf (s : ByteArray) : strOf (bytesOf s) = s :=
  bytesOf_inj (bytesOf_strOf _ (bytesOf_byte s))
theorem bytesOf_app (a b : ByteArray) : bytesOf (a ++ b) = bytesOf a ++ bytesOf b := by
  simp [bytesOf, ByteArray.data_append]
theorem strOf_app (a b : List Int) (ha : ∀ x ∈ a, IsByte x) (hb : ∀ x ∈ b, IsByte x) : strOf (a ++ b) = strOf a ++ strOf b := by
  apply bytesOf_inj
  rw [bytesOf_app, bytesOf_strOf _ ha, bytesOf_strOf _ hb, bytesOf_strOf]
  intro x hx
  rcases List.mem_append.1 hx with h | h
  · exact ha x h
  · exact hb x h
theorem bytesOf_ext (s : ByteArray) (a b : Nat) : bytesOf (s.extract a b) = ((bytesOf s).take b).drop a := by
  simp [bytesOf, ByteArray.data_extract, List.map_drop, List.map_take, List.take_drop]
  by_cases h : a ≤ b
  · rw [show a + (b - a) = b by omega]
  · have h1 : b ≤ a := by omega
    rw [show a + (b - a) = a by omega, List.drop_eq_nil_of_le (by simp; omega), List.drop_eq_nil_of_le (by simp; omega)]
theorem hexD_byte {n : Int} (h0 : 0 ≤ n) (h1 : n < 16) : IsByte (hexD n) := by
  unfold hexD IsByte; split <;> omega
theorem hexL_byte : ∀ l : List Int, (∀ x ∈ l, IsByte x) → ∀ x ∈ hexL l, IsByte x
  | [], _, x, hx => by cases hx
  | b :: r, h, x, hx => by
    obtain ⟨h0, h1⟩ := h b List.mem_cons_self
    simp only [hexL, List.mem_cons] at hx
    rcases hx with rfl | rfl | hx
    · exact hexD_byte (by omega) (by omega)
    · exact hexD_byte (by omega) (by omega)
    · exact hexL_byte r (fun y hy => h y (List.mem_cons_of_mem _ hy)) x hx
theorem strOf_len (d : List Int) : (strOf d).size = d.length := strOf_size d
theorem digit_ext (r : Int) (h0 : 0 ≤ r) (h1 : r < 16) : smallD.extract r.toNat (r + 1).toNat = strOf [hexD r] := by
  have : ∀ j : Fin 16, bytesOf (smallD.extract j.val (j.val + 1)) = [hexD (j.val : Int)] := by decide
  apply bytesOf_inj
  rw [bytesOf_strOf _ (by intro x hx; rw [List.mem_singleton.1 hx]; exact hexD_byte h0 h1)]
  have h := this ⟨r.toNat, by omega⟩
  have e : (r + 1).toNat = r.toNat + 1 := by omega
  have e2 : ((r.toNat : Nat) : Int) = r := by omega
  rw [e]
  simp only [e2] at h
  exact h
theorem rhex_ok : conHex.Vc body29 := by
  rw [rhex_vc]
  intro x hx
  obtain ⟨hb, hl⟩ := (hx : Bs x.G x.p x.l x.c x.d ∧ x.l ≤ 1000000)
  refine ⟨x, ⟨0, strOf []⟩, rfl, rfl, rfl, rfl, rfl, Sub.refl _, ⟨Nat.zero_le _, rfl, hb, hl⟩, fun z hz d => ?_⟩
  obtain ⟨h1, h2, _, _⟩ := (hz : z.i ≤ x.l ∧ z.s = strOf (hexL (x.d.take z.i)) ∧ Bs x.G x.p x.l x.c x.d ∧ x.l ≤ 1000000)
  have hlen : (hexL (x.d.take z.i)).length = 2 * z.i := by rw [hexL_len, List.length_take, hb.len]; omega
  have hsz : z.s.size = 2 * z.i := by rw [h2, strOf_len, hlen]
  refine ⟨fun hlt => ?_, fun hge => ?_⟩
  · have hlt := of_decide_eq_true hlt
    obtain ⟨bk, o, e1, e2, e3⟩ := rd_byte hb (i := z.i) (by omega)
    have e3' := e3
    obtain ⟨b0, b1⟩ := e3
    have t1 : ∀ r : Int, r = IntKind.u8.wrap ((x.d.getD z.i 0).tdiv 16) → r = x.d.getD z.i 0 / 16 := fun r hr => by
      rw [hr, Int.tdiv_eq_ediv_of_nonneg b0, IntKind.wrap_u8']; omega
    have t2 : ∀ r : Int, r = (x.d.getD z.i 0).tmod 16 → r = x.d.getD z.i 0 % 16 := fun r hr => by
      rw [hr, Int.tmod_eq_emod_of_nonneg b0]
    refine ok_ (by omega) ⟨bk, o, e1, _, e2, fun r1 hr1 => ok_ (by omega) ⟨bk, o, e1, _, e2, fun r2 hr2 r3 hr3 => ?_⟩⟩
    have hr1 := t1 r1 hr1
    have hr2 := t1 r2 hr2
    rw [IntKind.wrap_u8'] at hr3
    refine ok_ (by omega) (ok_ (by omega) fun s1 hs1 => ?_)
    have e5 : r3 = r1 + 1 := by omega
    rw [e5] at hs1
    have hs1 := hs1.trans (digit_ext r1 (by omega) (by omega))
    refine ⟨by rw [hsz, hs1, strOf_len]; simp; omega, fun s2 hs2 => ok_ (by omega) ⟨bk, o, e1, _, e2, fun r4 hr4 => ok_ (by omega) ⟨bk, o, e1, _, e2, fun r5 hr5 r6 hr6 => ?_⟩⟩⟩
    have hr4 := t2 r4 hr4
    have hr5 := t2 r5 hr5
    rw [IntKind.wrap_u8'] at hr6
    refine ok_ (by omega) (ok_ (by omega) fun s3 hs3 => ?_)
    have e6 : r6 = r4 + 1 := by omega
    rw [e6] at hs3
    have hs3 := hs3.trans (digit_ext r4 (by omega) (by omega))
    refine ⟨by rw [hs2, ByteArray.size_append, hsz, hs1, hs3, strOf_len, strOf_len]; simp; omega, fun s4 hs4 r7 hr7 => ?_⟩
    rw [w64 _ (by omega) (by omega)] at hr7
    refine ⟨⟨z.i + 1, s4⟩, ⟨by show z.i + 1 ≤ x.l; omega, ?_, hb, hl⟩, ?_, rfl, rfl, rfl, rfl, ?_, Sub.refl _, trivial⟩
    · show s4 = strOf (hexL (x.d.take (z.i + 1)))
      have q0 : ∀ y ∈ hexL (x.d.take z.i), IsByte y := hexL_byte _ fun y hy => hb.byte y (List.mem_of_mem_take hy)
      have q1 : ∀ y ∈ [hexD r1], IsByte y := by intro y hy; rw [List.mem_singleton.1 hy]; exact hexD_byte (by omega) (by omega)
      have q2 : ∀ y ∈ [hexD r4], IsByte y := by intro y hy; rw [List.mem_singleton.1 hy]; exact hexD_byte (by omega) (by omega)
      rw [hs4, hs2, h2, hs1, hs3, ← strOf_app _ _ q0 q1, ← strOf_app _ _ ?_ q2, hexL_step hb (i := z.i) (by omega), hr1, hr4]
      · simp
      · intro y hy
        rcases List.mem_append.1 hy with h | h
        · exact q0 y h
        · exact q1 y h
    · show x.l - (z.i + 1) < x.l - z.i; omega
    · show ((z.i + 1 : Nat) : Int) = r7; omega
  · have hge := of_decide_eq_false hge
    refine ⟨z.s, ?_, rfl, Sub.refl _, trivial⟩
    show z.s = strOf (hexL x.d)
    rw [h2, List.take_of_length_le (by rw [hb.len]; omega)]
theorem spec29 : SpecOk Tryz.prog 29 conHex.spec :=
  Con.sound (body_ok (fun f => noSpec_ok _ f) (fun _ => (famL_ok rhexLoop _).ok) (fun vs w => Tryz.call29 vs w)) rhex_ok
end Sw
end
section
/- gdb.Unhex, gdb.Sum and the document's: what they do. -/
namespace Sw
set_option maxRecDepth 100000
open Go Go.Proofs Vx

/-- A digit's number, and whether it is one. -/
def valS : PureS where
  a := .cons (.int .u8) .nil
  pre x := IsByte (x.i 0)
  res x := .tup (.cons (.int .u8 ((hexV (x.i 0)).getD 0)) (.cons (.bool (hexV (x.i 0)).isSome) .nil))
def rvalS : PureS where
  a := .cons (.int .u8) .nil
  pre x := IsByte (x.i 0)
  res x := .int .i64 ((hexV (x.i 0)).getD 99)
structure CI where
  c : Int
  hp : Hp
def rvalLp (x : CI) : LoopS where
  X := RValI
  f := 0
  m := 0
  tmps z := [(0, .int .u8 (.v x.c)), (3, .int .i64 (.v z.i))]
  heap _ := []
  G _ := x.hp.G
  inv z := z.i ≤ 16 ∧ ∀ j, j < z.i → byteAt smallD j ≠ x.c ∧ byteAt greatD j ≠ x.c
  mea z := 16 - z.i
noncomputable def body68p : SpecT := body (fun _ => noSpec) (fun _ => famL rvalLp) 68
/-- Bytes, or none. -/
structure MayY where
  p : Option Addr
  l : Nat
  c : Nat
  d : List Int
  ok : Bool
  G : Nat → Option Obj
def MayOk (G : Nat → Option Obj) (want : Option (List Int)) (y : MayY) : Prop := Sub G y.G ∧ Bs y.G y.p y.l y.c y.d ∧ want = (bif y.ok then some y.d else none) ∧ (y.ok = false → y.d = [])
def conUnhex : Con where
  X := StrX
  n := 0
  args x := [.str (.v x.s)]
  heap _ := []
  G x := x.G
  pre x := x.s.size ≤ 1000000
  Y := MayY
  m := 0
  post x y := MayOk x.G (unhexL (bytesOf x.s)) y
  res _ y := .tup (.cons (.gsl y.p (.v y.l) (.v y.c)) (.cons (.bool (.v y.ok)) .nil))
  heap' _ _ := []
  G' _ y := y.G
structure UnhexI where
  i : Nat
  xs : List Int
  vs : List Value
def unhexLoop (x : StrX) : LoopS where
  X := UnhexI
  f := 0
  m := 1
  tmps z := [(0, .str (.v x.s)), (4, obs 0 z.xs z.vs), (5, .int .i64 (.v (2 * z.i)))]
  heap z := [(0, obh .u8 5 z.xs z.vs)]
  G _ := x.G
  inv z := 2 * z.i ≤ x.s.size ∧ unhexL ((bytesOf x.s).take (2 * z.i)) = some z.xs ∧ x.s.size ≤ 1000000 ∧ x.s.size % 2 = 0
  mea z := x.s.size - z.i
noncomputable def call26 (f : Nat) : SpecT := bif Nat.beq f 67 then valS.spec else noSpec
noncomputable def body26 : SpecT := body call26 (fun _ => famL unhexLoop) 26
def runhexLoop (x : StrX) : LoopS where
  X := UnhexI
  f := 0
  m := 1
  tmps z := [(0, .str (.v x.s)), (4, obs 0 z.xs z.vs), (5, .int .i64 (.v (2 * z.i)))]
  heap z := [(0, obh .u8 5 z.xs z.vs)]
  G _ := x.G
  inv z := 2 * z.i ≤ x.s.size ∧ unhexL ((bytesOf x.s).take (2 * z.i)) = some z.xs ∧ x.s.size ≤ 1000000
  mea z := x.s.size - z.i
noncomputable def call28 (f : Nat) : SpecT := bif Nat.beq f 68 then rvalS.spec else noSpec
noncomputable def body28 : SpecT := body call28 (fun _ => peel (famL runhexLoop)) 28
structure RSumI where
  i : Nat
  n : Int
def rsumL (x : StrX) : LoopS where
  X := RSumI
  f := 0
  m := 0
  tmps z := [(0, .str (.v x.s)), (3, .int .i64 (.v z.n)), (4, .int .i64 (.v z.i))]
  heap _ := []
  G _ := x.G
  inv z := z.i ≤ x.s.size ∧ z.n = sumS ((bytesOf x.s).take z.i) ∧ x.s.size < 9223372036854775808
  mea z := x.s.size - z.i
noncomputable def body31 : SpecT := body (fun _ => noSpec) (fun _ => famL rsumL) 31
end Sw
end
section
/- What GdHex3's conditions come to, word for word: made by a program. -/
set_option maxRecDepth 100000
set_option linter.unusedVariables false
namespace Sw
open Go Go.Proofs Vx
theorem valS_vc : (valS.Vc body67) = (
∀ (x : Vx.PX), Sw.valS.pre x →
 ∀ (hp : Vx.Hp), (Decidable.decide (x.i (0 : Nat) ≥ (48 : Int)) = Bool.true →
 (Decidable.decide (x.i (0 : Nat) ≤ (57 : Int)) = Bool.true →
 ∀ (r : Int), r = Go.IntKind.u8.wrap (x.i (0 : Nat) - (48 : Int)) →
 (Sw.hexV (x.i (0 : Nat))).getD (0 : Int) = r ∧ (Sw.hexV (x.i (0 : Nat))).isSome = Bool.true ∧ hp = hp) ∧
 (Decidable.decide (x.i (0 : Nat) ≤ (57 : Int)) = Bool.false →
 (Decidable.decide (x.i (0 : Nat) ≥ (97 : Int)) = Bool.true →
 (Decidable.decide (x.i (0 : Nat) ≤ (102 : Int)) = Bool.true →
 ∀ (r : Int), r = Go.IntKind.u8.wrap (x.i (0 : Nat) - (97 : Int)) →
 ∀ (r_1 : Int), r_1 = Go.IntKind.u8.wrap (r + (10 : Int)) →
 (Sw.hexV (x.i (0 : Nat))).getD (0 : Int) = r_1 ∧ (Sw.hexV (x.i (0 : Nat))).isSome = Bool.true ∧ hp = hp) ∧
 (Decidable.decide (x.i (0 : Nat) ≤ (102 : Int)) = Bool.false →
 (Decidable.decide (x.i (0 : Nat) ≥ (65 : Int)) = Bool.true →
 (Decidable.decide (x.i (0 : Nat) ≤ (70 : Int)) = Bool.true →
 ∀ (r : Int), r = Go.IntKind.u8.wrap (x.i (0 : Nat) - (65 : Int)) →
 ∀ (r_1 : Int), r_1 = Go.IntKind.u8.wrap (r + (10 : Int)) →
 (Sw.hexV (x.i (0 : Nat))).getD (0 : Int) = r_1 ∧ (Sw.hexV (x.i (0 : Nat))).isSome = Bool.true ∧ hp = hp) ∧
 (Decidable.decide (x.i (0 : Nat) ≤ (70 : Int)) = Bool.false →
 (Sw.hexV (x.i (0 : Nat))).getD (0 : Int) = (0 : Int) ∧ (Sw.hexV (x.i (0 : Nat))).isSome = Bool.false ∧ hp = hp)) ∧
 (Decidable.decide (x.i (0 : Nat) ≥ (65 : Int)) = Bool.false →
 (Sw.hexV (x.i (0 : Nat))).getD (0 : Int) = (0 : Int) ∧ (Sw.hexV (x.i (0 : Nat))).isSome = Bool.false ∧ hp = hp))) ∧
 (Decidable.decide (x.i (0 : Nat) ≥ (97 : Int)) = Bool.false →
 (Decidable.decide (x.i (0 : Nat) ≥ (65 : Int)) = Bool.true →
 (Decidable.decide (x.i (0 : Nat) ≤ (70 : Int)) = Bool.true →
 ∀ (r : Int), r = Go.IntKind.u8.wrap (x.i (0 : Nat) - (65 : Int)) →
 ∀ (r_1 : Int), r_1 = Go.IntKind.u8.wrap (r + (10 : Int)) →
 (Sw.hexV (x.i (0 : Nat))).getD (0 : Int) = r_1 ∧ (Sw.hexV (x.i (0 : Nat))).isSome = Bool.true ∧ hp = hp) ∧
 (Decidable.decide (x.i (0 : Nat) ≤ (70 : Int)) = Bool.false →
 (Sw.hexV (x.i (0 : Nat))).getD (0 : Int) = (0 : Int) ∧ (Sw.hexV (x.i (0 : Nat))).isSome = Bool.false ∧ hp = hp)) ∧
 (Decidable.decide (x.i (0 : Nat) ≥ (65 : Int)) = Bool.false →
 (Sw.hexV (x.i (0 : Nat))).getD (0 : Int) = (0 : Int) ∧ (Sw.hexV (x.i (0 : Nat))).isSome = Bool.false ∧ hp = hp)))) ∧
 (Decidable.decide (x.i (0 : Nat) ≥ (48 : Int)) = Bool.false →
 (Decidable.decide (x.i (0 : Nat) ≥ (97 : Int)) = Bool.true →
 (Decidable.decide (x.i (0 : Nat) ≤ (102 : Int)) = Bool.true →
 ∀ (r : Int), r = Go.IntKind.u8.wrap (x.i (0 : Nat) - (97 : Int)) →
 ∀ (r_1 : Int), r_1 = Go.IntKind.u8.wrap (r + (10 : Int)) →
 (Sw.hexV (x.i (0 : Nat))).getD (0 : Int) = r_1 ∧ (Sw.hexV (x.i (0 : Nat))).isSome = Bool.true ∧ hp = hp) ∧
 (Decidable.decide (x.i (0 : Nat) ≤ (102 : Int)) = Bool.false →
 (Decidable.decide (x.i (0 : Nat) ≥ (65 : Int)) = Bool.true →
 (Decidable.decide (x.i (0 : Nat) ≤ (70 : Int)) = Bool.true →
 ∀ (r : Int), r = Go.IntKind.u8.wrap (x.i (0 : Nat) - (65 : Int)) →
 ∀ (r_1 : Int), r_1 = Go.IntKind.u8.wrap (r + (10 : Int)) →
 (Sw.hexV (x.i (0 : Nat))).getD (0 : Int) = r_1 ∧ (Sw.hexV (x.i (0 : Nat))).isSome = Bool.true ∧ hp = hp) ∧
 (Decidable.decide (x.i (0 : Nat) ≤ (70 : Int)) = Bool.false →
 (Sw.hexV (x.i (0 : Nat))).getD (0 : Int) = (0 : Int) ∧ (Sw.hexV (x.i (0 : Nat))).isSome = Bool.false ∧ hp = hp)) ∧
 (Decidable.decide (x.i (0 : Nat) ≥ (65 : Int)) = Bool.false →
 (Sw.hexV (x.i (0 : Nat))).getD (0 : Int) = (0 : Int) ∧ (Sw.hexV (x.i (0 : Nat))).isSome = Bool.false ∧ hp = hp))) ∧
 (Decidable.decide (x.i (0 : Nat) ≥ (97 : Int)) = Bool.false →
 (Decidable.decide (x.i (0 : Nat) ≥ (65 : Int)) = Bool.true →
 (Decidable.decide (x.i (0 : Nat) ≤ (70 : Int)) = Bool.true →
 ∀ (r : Int), r = Go.IntKind.u8.wrap (x.i (0 : Nat) - (65 : Int)) →
 ∀ (r_1 : Int), r_1 = Go.IntKind.u8.wrap (r + (10 : Int)) →
 (Sw.hexV (x.i (0 : Nat))).getD (0 : Int) = r_1 ∧ (Sw.hexV (x.i (0 : Nat))).isSome = Bool.true ∧ hp = hp) ∧
 (Decidable.decide (x.i (0 : Nat) ≤ (70 : Int)) = Bool.false →
 (Sw.hexV (x.i (0 : Nat))).getD (0 : Int) = (0 : Int) ∧ (Sw.hexV (x.i (0 : Nat))).isSome = Bool.false ∧ hp = hp)) ∧
 (Decidable.decide (x.i (0 : Nat) ≥ (65 : Int)) = Bool.false →
 (Sw.hexV (x.i (0 : Nat))).getD (0 : Int) = (0 : Int) ∧ (Sw.hexV (x.i (0 : Nat))).isSome = Bool.false ∧ hp = hp)))) := by kernel_rfl
theorem rvalS_vc : (rvalS.Vc body68p) = (
∀ (x : Vx.PX), Sw.rvalS.pre x →
 ∀ (hp : Vx.Hp), ∃ (g : Sw.CI), ∃ (x0 : Sw.RValI), g.c = x.i (0 : Nat) ∧
 (↑x0.i : Int) = (0 : Int) ∧
 Vx.Sub ((Sw.rvalLp g).G x0) hp.G ∧
 (Sw.rvalLp g).inv x0 ∧
 ∀ (x_1 : Sw.RValI), (Sw.rvalLp g).inv x_1 →
 ∀ (d : Nat → Go.Value), (Decidable.decide ((↑x_1.i : Int) < (16 : Int)) = Bool.true →
 ((0 : Int) ≤ (↑x_1.i : Int) ∧ (↑x_1.i : Int) < (16 : Int)) ∧
 ((0 : Int) ≤ (↑x_1.i : Int) ∧ (↑x_1.i : Int) < (16 : Int) →
 ((Vx.byteAt
 (ByteArray.mk
 #[48, 49, 50, 51, 52, 53, 54, 55, 56, 57, 97, 98, 99, 100, 101, 102])
 (↑x_1.i : Int) ==
 g.c) =
 Bool.true →
 (Sw.hexV (x.i (0 : Nat))).getD (99 : Int) = (↑x_1.i : Int) ∧
 Vx.backHp (Sw.rvalLp g) x0 hp []
 (Vx.Hp.mk (Sw.rvalLp g).m (Vx.heapOf ((Sw.rvalLp g).heap x_1)) [] ((Sw.rvalLp g).G x_1)) =
 hp) ∧
 ((Vx.byteAt
 (ByteArray.mk
 #[48, 49, 50, 51, 52, 53, 54, 55, 56, 57, 97, 98, 99, 100, 101, 102])
 (↑x_1.i : Int) ==
 g.c) =
 Bool.false →
 ((0 : Int) ≤ (↑x_1.i : Int) ∧ (↑x_1.i : Int) < (16 : Int)) ∧
 ((0 : Int) ≤ (↑x_1.i : Int) ∧ (↑x_1.i : Int) < (16 : Int) →
 ((Vx.byteAt
 (ByteArray.mk
 #[48, 49, 50, 51, 52, 53, 54, 55, 56, 57, 65, 66, 67, 68, 69, 70])
 (↑x_1.i : Int) ==
 g.c) =
 Bool.true →
 (Sw.hexV (x.i (0 : Nat))).getD (99 : Int) = (↑x_1.i : Int) ∧
 Vx.backHp (Sw.rvalLp g) x0 hp []
 (Vx.Hp.mk (Sw.rvalLp g).m (Vx.heapOf ((Sw.rvalLp g).heap x_1)) [] ((Sw.rvalLp g).G x_1)) =
 hp) ∧
 ((Vx.byteAt
 (ByteArray.mk
 #[48, 49, 50, 51, 52, 53, 54, 55, 56, 57, 65, 66, 67, 68, 69, 70])
 (↑x_1.i : Int) ==
 g.c) =
 Bool.false →
 ∀ (r : Int), r = Go.IntKind.i64.wrap ((↑x_1.i : Int) + (1 : Int)) →
 ∃ (x' : Sw.RValI), (Sw.rvalLp g).inv x' ∧
 (Sw.rvalLp g).mea x' < (Sw.rvalLp g).mea x_1 ∧
 g.c = g.c ∧ (↑x'.i : Int) = r ∧ Vx.Sub ((Sw.rvalLp g).G x') g.hp.G ∧ True))))) ∧
 (Decidable.decide ((↑x_1.i : Int) < (16 : Int)) = Bool.false →
 (Sw.hexV (x.i (0 : Nat))).getD (99 : Int) = (99 : Int) ∧
 Vx.backHp (Sw.rvalLp g) x0 hp [] (Vx.Hp.mk (Sw.rvalLp g).m (Vx.heapOf ((Sw.rvalLp g).heap x_1)) [] ((Sw.rvalLp g).G x_1)) = hp)) := by kernel_rfl
theorem unhex_vc : (conUnhex.VcT 1 body26) = (
∀ (x : Sw.StrX), Sw.conUnhex.pre x →
 ∀ (r : Int), r = (↑x.s.size : Int).tmod (2 : Int) →
 ((r != (0 : Int)) = Bool.true →
 ∃ (y : Sw.MayY), Sw.conUnhex.post x y ∧ y.p = Option.none ∧ y.l = (0 : Nat) ∧ y.c = (0 : Nat) ∧ y.ok = Bool.false ∧ Vx.Sub (Sw.conUnhex.G' x y) x.G ∧ True) ∧
 ((r != (0 : Int)) = Bool.false →
 ∀ (r : Int), r = Go.IntKind.i64.wrap ((↑x.s.size : Int).tdiv (2 : Int)) →
 ((0 : Int) ≤ (0 : Int) ∧ (0 : Int) ≤ (↑r.toNat : Int)) ∧
 ((0 : Int) ≤ (0 : Int) ∧ (0 : Int) ≤ (↑r.toNat : Int) →
 ((0 : Int) ≤ r ∧ r ≤ (9223372036854775807 : Int)) ∧
 ((0 : Int) ≤ r ∧ r ≤ (9223372036854775807 : Int) →
 r.toNat ≤ (281474976710656 : Nat) ∧
 (r.toNat ≤ (281474976710656 : Nat) →
 ∀ (vs : List Go.Value), vs.length = (r.toNat - (0 : Nat)) * (1 : Nat) →
 (∀ (v : Go.Value), v ∈ vs → v.oneCell' = Bool.true) →
 ∃ (g : Sw.StrX), ∃ (x0 : Sw.UnhexI), g.s = x.s ∧
 x0.xs.length = (0 : Nat) ∧
 x0.xs.length + x0.vs.length = r.toNat ∧
 (2 : Int) * (↑x0.i : Int) = (0 : Int) ∧
 x0.xs = (Vx.IL.fill (Int.toNat (0 : Int)) (0 : Int) []).den ∧
 x0.xs.length = (0 : Nat) ∧
 x0.vs = vs ∧
 x0.vs.length = r.toNat - (0 : Nat) ∧
 Vx.Sub ((Sw.unhexLoop g).G x0) x.G ∧
 (Sw.unhexLoop g).inv x0 ∧
 ∀ (x_1 : Sw.UnhexI), (Sw.unhexLoop g).inv x_1 →
 ∀ (d : Nat → Go.Value), (Decidable.decide ((2 : Int) * (↑x_1.i : Int) < (↑g.s.size : Int)) = Bool.true →
 ((0 : Int) ≤ (2 : Int) * (↑x_1.i : Int) ∧ (2 : Int) * (↑x_1.i : Int) < (↑g.s.size : Int)) ∧
 ((0 : Int) ≤ (2 : Int) * (↑x_1.i : Int) ∧ (2 : Int) * (↑x_1.i : Int) < (↑g.s.size : Int) →
 Sw.IsByte (Vx.byteAt g.s ((2 : Int) * (↑x_1.i : Int))) ∧
 (Sw.IsByte (Vx.byteAt g.s ((2 : Int) * (↑x_1.i : Int))) →
 ∀ (r : Int), r = (Sw.hexV (Vx.byteAt g.s ((2 : Int) * (↑x_1.i : Int)))).getD (0 : Int) →
 ∀ (r_1 : Bool), r_1 = (Sw.hexV (Vx.byteAt g.s ((2 : Int) * (↑x_1.i : Int)))).isSome →
 ∀ (r_2 : Int), r_2 = Go.IntKind.i64.wrap ((2 : Int) * (↑x_1.i : Int) + (1 : Int)) →
 ((0 : Int) ≤ r_2 ∧ r_2 < (↑g.s.size : Int)) ∧
 ((0 : Int) ≤ r_2 ∧ r_2 < (↑g.s.size : Int) →
 Sw.IsByte (Vx.byteAt g.s r_2) ∧
 (Sw.IsByte (Vx.byteAt g.s r_2) →
 ∀ (r_3 : Int), r_3 = (Sw.hexV (Vx.byteAt g.s r_2)).getD (0 : Int) →
 ∀ (r_4 : Bool), r_4 = (Sw.hexV (Vx.byteAt g.s r_2)).isSome →
 ((!r_1) = Bool.true →
 ∃ (y : Sw.MayY), Sw.conUnhex.post x y ∧
 y.p = Option.none ∧
 y.l = (0 : Nat) ∧
 y.c = (0 : Nat) ∧
 y.ok = Bool.false ∧
 Vx.Sub (Sw.conUnhex.G' x y) g.G ∧
 True) ∧
 ((!r_1) = Bool.false →
 ((!r_4) = Bool.true →
 ∃ (y : Sw.MayY), Sw.conUnhex.post x y ∧
 y.p = Option.none ∧
 y.l = (0 : Nat) ∧
 y.c = (0 : Nat) ∧
 y.ok = Bool.false ∧
 Vx.Sub (Sw.conUnhex.G' x y) g.G ∧
 True) ∧
 ((!r_4) = Bool.false →
 ∀ (r_5 : Int), r_5 =
 Vx.shft Go.BinOp.shl Go.IntKind.u8 r
 (4 : Int) →
 ∀ (r : Int), r =
 Vx.bits Go.BinOp.or Go.IntKind.u8 r_5
 r_3 →
 x_1.xs.length + (1 : Nat) ≤
 (140737488355328 : Nat) ∧
 (x_1.xs.length + (1 : Nat) ≤
 (140737488355328 : Nat) →
 x_1.xs.length + (1 : Nat) ≤
 (9223372036854775807 : Nat) ∧
 (x_1.xs.length + (1 : Nat) ≤
 (9223372036854775807 : Nat) →
 x_1.xs.length = x_1.xs.length ∧
 (x_1.xs.length =
 x_1.xs.length →
 x_1.vs.length =
 x_1.xs.length +
 x_1.vs.length -
 x_1.xs.length ∧
 (x_1.vs.length =
 x_1.xs.length +
 x_1.vs.length -
 x_1.xs.length →
 x_1.xs.length ≤
 x_1.xs.length +
 x_1.vs.length ∧
 (x_1.xs.length ≤
 x_1.xs.length +
 x_1.vs.length →
 ∀ (c : Nat)
 (vs :
 List Go.Value), x_1.xs.length +
 (1 : Nat) ≤
 c →
 vs.length =
 (c -
 (x_1.xs.length +
 (1 :
 Nat))) *
 (1 :
 Nat) →
 (∀
 (v :
 Go.Value), v ∈ vs →
 v.oneCell' =
 Bool.true) →
 ∀
 (r_6 :
 Int), r_6 =
 Go.IntKind.i64.wrap
 ((2 :
 Int) *
 (↑x_1.i :
 Int) +
 (2 :
 Int)) →
 ∃ (x' :
 Sw.UnhexI), (Sw.unhexLoop
 g).inv
 x' ∧
 (Sw.unhexLoop
 g).mea
 x' <
 (Sw.unhexLoop
 g).mea
 x_1 ∧
 g.s =
 g.s ∧
 x'.xs.length =
 x_1.xs.length +
 (1 :
 Nat) ∧
 x'.xs.length +
 x'.vs.length =
 c ∧
 (2 :
 Int) *
 (↑x'.i :
 Int) =
 r_6 ∧
 x'.xs =
 x_1.xs ++
 [r] ∧
 x'.xs.length =
 x_1.xs.length +
 (1 :
 Nat) ∧
 x'.vs =
 vs ∧
 x'.vs.length =
 (c -
 (x_1.xs.length +
 (1 :
 Nat))) *
 (1 :
 Nat) ∧
 Vx.Sub
 ((Sw.unhexLoop
 g).G
 x')
 g.G ∧
 True)))))))))))) ∧
 (Decidable.decide ((2 : Int) * (↑x_1.i : Int) < (↑g.s.size : Int)) = Bool.false →
 ∀ (a : Nat), g.G a = Option.none →
 ∃ (y : Sw.MayY), Sw.conUnhex.post x y ∧
 y.p = Option.some (Go.Addr.mk a (0 : Nat) Option.none) ∧
 y.l = x_1.xs.length ∧
 y.c = x_1.xs.length + x_1.vs.length ∧
 y.ok = Bool.true ∧
 Vx.Sub (Sw.conUnhex.G' x y)
 (Vx.addG a
 (Go.Obj.cells
 (List.map (Go.Value.int Go.IntKind.u8) x_1.xs ++ x_1.vs).toArray
 (5 : Nat)
 (Vx.fzOf Bool.false
 (List.map (Go.Value.int Go.IntKind.u8) x_1.xs ++ x_1.vs).length))
 g.G) ∧
 True)))))) := by kernel_rfl
theorem runhex_vc : (conUnhex.VcT 1 body28) = (
∀ (x : Sw.StrX), Sw.conUnhex.pre x →
 (Decidable.decide ((1 : Int) < (↑x.s.size : Int)) = Bool.true →
 ((0 : Int) ≤ (0 : Int) ∧ (0 : Int) < (↑x.s.size : Int)) ∧
 ((0 : Int) ≤ (0 : Int) ∧ (0 : Int) < (↑x.s.size : Int) →
 Sw.IsByte (Vx.byteAt x.s (0 : Int)) ∧
 (Sw.IsByte (Vx.byteAt x.s (0 : Int)) →
 ∀ (r : Int), r = (Sw.hexV (Vx.byteAt x.s (0 : Int))).getD (99 : Int) →
 (Decidable.decide (r > (15 : Int)) = Bool.true →
 ∃ (y : Sw.MayY), Sw.conUnhex.post x y ∧
 y.p = Option.none ∧ y.l = (0 : Nat) ∧ y.c = (0 : Nat) ∧ y.ok = Bool.false ∧ Vx.Sub (Sw.conUnhex.G' x y) x.G ∧ True) ∧
 (Decidable.decide (r > (15 : Int)) = Bool.false →
 ((0 : Int) ≤ (1 : Int) ∧ (1 : Int) < (↑x.s.size : Int)) ∧
 ((0 : Int) ≤ (1 : Int) ∧ (1 : Int) < (↑x.s.size : Int) →
 Sw.IsByte (Vx.byteAt x.s (1 : Int)) ∧
 (Sw.IsByte (Vx.byteAt x.s (1 : Int)) →
 ∀ (r : Int), r = (Sw.hexV (Vx.byteAt x.s (1 : Int))).getD (99 : Int) →
 (Decidable.decide (r > (15 : Int)) = Bool.true →
 ∃ (y : Sw.MayY), Sw.conUnhex.post x y ∧
 y.p = Option.none ∧
 y.l = (0 : Nat) ∧ y.c = (0 : Nat) ∧ y.ok = Bool.false ∧ Vx.Sub (Sw.conUnhex.G' x y) x.G ∧ True) ∧
 (Decidable.decide (r > (15 : Int)) = Bool.false →
 ((0 : Int) ≤ (0 : Int) ∧ (0 : Int) < (↑x.s.size : Int)) ∧
 ((0 : Int) ≤ (0 : Int) ∧ (0 : Int) < (↑x.s.size : Int) →
 ((0 : Int) ≤ (1 : Int) ∧ (1 : Int) < (↑x.s.size : Int)) ∧
 ((0 : Int) ≤ (1 : Int) ∧ (1 : Int) < (↑x.s.size : Int) →
 Sw.IsByte (Vx.byteAt x.s (0 : Int)) ∧
 (Sw.IsByte (Vx.byteAt x.s (0 : Int)) →
 ∀ (r : Int), r = (Sw.hexV (Vx.byteAt x.s (0 : Int))).getD (99 : Int) →
 ∀ (r_1 : Int), r_1 = Go.IntKind.i64.wrap (r * (16 : Int)) →
 Sw.IsByte (Vx.byteAt x.s (1 : Int)) ∧
 (Sw.IsByte (Vx.byteAt x.s (1 : Int)) →
 ∀ (r : Int), r = (Sw.hexV (Vx.byteAt x.s (1 : Int))).getD (99 : Int) →
 ∀ (r_2 : Int), r_2 = Go.IntKind.i64.wrap (r_1 + r) →
 ∀ (r : Int), r = Go.IntKind.u8.wrap r_2 →
 ∀ (c : Nat) (vs : List Go.Value), (1 : Nat) ≤ c →
 vs.length = (c - (1 : Nat)) * (1 : Nat) →
 (∀ (v : Go.Value), v ∈ vs → v.oneCell' = Bool.true) →
 ∃ (g : Sw.StrX), ∃ (x0 : Sw.UnhexI), g.s = x.s ∧
 x0.xs.length = (1 : Nat) ∧
 x0.xs.length + x0.vs.length = c ∧
 (2 : Int) * (↑x0.i : Int) = (2 : Int) ∧
 x0.xs = [r] ∧
 x0.xs.length = (1 : Nat) ∧
 x0.vs = vs ∧
 x0.vs.length = (c - (1 : Nat)) * (1 : Nat) ∧
 Vx.Sub ((Sw.runhexLoop g).G x0) x.G ∧
 (Sw.runhexLoop g).inv x0 ∧
 ∀ (x_1 : Sw.UnhexI), (Sw.runhexLoop g).inv x_1 →
 ∀ (d : Nat → Go.Value) (r : Int), r =
 Go.IntKind.i64.wrap
 ((2 : Int) * (↑x_1.i : Int) +
 (1 : Int)) →
 (Decidable.decide (r < (↑g.s.size : Int)) =
 Bool.true →
 ((0 : Int) ≤
 (2 : Int) * (↑x_1.i : Int) ∧
 (2 : Int) * (↑x_1.i : Int) <
 (↑g.s.size : Int)) ∧
 ((0 : Int) ≤
 (2 : Int) * (↑x_1.i : Int) ∧
 (2 : Int) * (↑x_1.i : Int) <
 (↑g.s.size : Int) →
 Sw.IsByte
 (Vx.byteAt g.s
 ((2 : Int) *
 (↑x_1.i : Int))) ∧
 (Sw.IsByte
 (Vx.byteAt g.s
 ((2 : Int) *
 (↑x_1.i : Int))) →
 ∀ (r : Int), r =
 (Sw.hexV
 (Vx.byteAt g.s
 ((2 : Int) *
 (↑x_1.i :
 Int)))).getD
 (99 : Int) →
 (Decidable.decide
 (r > (15 : Int)) =
 Bool.true →
 ∃ (y : Sw.MayY), Sw.conUnhex.post x y ∧
 y.p = Option.none ∧
 y.l = (0 : Nat) ∧
 y.c =
 (0 : Nat) ∧
 y.ok =
 Bool.false ∧
 Vx.Sub
 (Sw.conUnhex.G'
 x y)
 g.G ∧
 True) ∧
 (Decidable.decide
 (r > (15 : Int)) =
 Bool.false →
 ∀ (r : Int), r =
 Go.IntKind.i64.wrap
 ((2 : Int) *
 (↑x_1.i :
 Int) +
 (1 : Int)) →
 ((0 : Int) ≤ r ∧
 r <
 (↑g.s.size :
 Int)) ∧
 ((0 : Int) ≤ r ∧
 r <
 (↑g.s.size :
 Int) →
 Sw.IsByte
 (Vx.byteAt
 g.s r) ∧
 (Sw.IsByte
 (Vx.byteAt
 g.s r) →
 ∀
 (r_3 :
 Int), r_3 =
 (Sw.hexV
 (Vx.byteAt
 g.s
 r)).getD
 (99 :
 Int) →
 (Decidable.decide
 (r_3 >
 (15 :
 Int)) =
 Bool.true →
 ∃ (y
 :
 Sw.MayY), Sw.conUnhex.post
 x
 y ∧
 y.p =
 Option.none ∧
 y.l =
 (0 :
 Nat) ∧
 y.c =
 (0 :
 Nat) ∧
 y.ok =
 Bool.false ∧
 Vx.Sub
 (Sw.conUnhex.G'
 x
 y)
 g.G ∧
 True) ∧
 (Decidable.decide
 (r_3 >
 (15 :
 Int)) =
 Bool.false →
 ((0 :
 Int) ≤
 (2 :
 Int) *
 (↑x_1.i :
 Int) ∧
 (2 :
 Int) *
 (↑x_1.i :
 Int) <
 (↑g.s.size :
 Int)) ∧
 ((0 :
 Int) ≤
 (2 :
 Int) *
 (↑x_1.i :
 Int) ∧
 (2 :
 Int) *
 (↑x_1.i :
 Int) <
 (↑g.s.size :
 Int) →
 ∀
 (r :
 Int), r =
 Go.IntKind.i64.wrap
 ((2 :
 Int) *
 (↑x_1.i :
 Int) +
 (1 :
 Int)) →
 ((0 :
 Int) ≤
 r ∧
 r <
 (↑g.s.size :
 Int)) ∧
 ((0 :
 Int) ≤
 r ∧
 r <
 (↑g.s.size :
 Int) →
 Sw.IsByte
 (Vx.byteAt
 g.s
 ((2 :
 Int) *
 (↑x_1.i :
 Int))) ∧
 (Sw.IsByte
 (Vx.byteAt
 g.s
 ((2 :
 Int) *
 (↑x_1.i :
 Int))) →
 ∀
 (r_4 :
 Int), r_4 =
 (Sw.hexV
 (Vx.byteAt
 g.s
 ((2 :
 Int) *
 (↑x_1.i :
 Int)))).getD
 (99 :
 Int) →
 ∀
 (r_5 :
 Int), r_5 =
 Go.IntKind.i64.wrap
 (r_4 *
 (16 :
 Int)) →
 Sw.IsByte
 (Vx.byteAt
 g.s
 r) ∧
 (Sw.IsByte
 (Vx.byteAt
 g.s
 r) →
 ∀
 (r_6 :
 Int), r_6 =
 (Sw.hexV
 (Vx.byteAt
 g.s
 r)).getD
 (99 :
 Int) →
 ∀
 (r :
 Int), r =
 Go.IntKind.i64.wrap
 (r_5 +
 r_6) →
 ∀
 (r_7 :
 Int), r_7 =
 Go.IntKind.u8.wrap
 r →
 x_1.xs.length +
 (1 :
 Nat) ≤
 (140737488355328 :
 Nat) ∧
 (x_1.xs.length +
 (1 :
 Nat) ≤
 (140737488355328 :
 Nat) →
 x_1.xs.length +
 (1 :
 Nat) ≤
 (9223372036854775807 :
 Nat) ∧
 (x_1.xs.length +
 (1 :
 Nat) ≤
 (9223372036854775807 :
 Nat) →
 x_1.xs.length =
 x_1.xs.length ∧
 (x_1.xs.length =
 x_1.xs.length →
 x_1.vs.length =
 x_1.xs.length +
 x_1.vs.length -
 x_1.xs.length ∧
 (x_1.vs.length =
 x_1.xs.length +
 x_1.vs.length -
 x_1.xs.length →
 x_1.xs.length ≤
 x_1.xs.length +
 x_1.vs.length ∧
 (x_1.xs.length ≤
 x_1.xs.length +
 x_1.vs.length →
 ∀
 (c :
 Nat)
 (vs :
 List
 Go.Value), x_1.xs.length +
 (1 :
 Nat) ≤
 c →
 vs.length =
 (c -
 (x_1.xs.length +
 (1 :
 Nat))) *
 (1 :
 Nat) →
 (∀
 (v :
 Go.Value), v ∈
 vs →
 v.oneCell' =
 Bool.true) →
 ∀
 (r :
 Int), r =
 Go.IntKind.i64.wrap
 ((2 :
 Int) *
 (↑x_1.i :
 Int) +
 (2 :
 Int)) →
 ∃
 (x'
 :
 Sw.UnhexI), (Sw.runhexLoop
 g).inv
 x' ∧
 (Sw.runhexLoop
 g).mea
 x' <
 (Sw.runhexLoop
 g).mea
 x_1 ∧
 g.s =
 g.s ∧
 x'.xs.length =
 x_1.xs.length +
 (1 :
 Nat) ∧
 x'.xs.length +
 x'.vs.length =
 c ∧
 (2 :
 Int) *
 (↑x'.i :
 Int) =
 r ∧
 x'.xs =
 x_1.xs ++
 [r_7] ∧
 x'.xs.length =
 x_1.xs.length +
 (1 :
 Nat) ∧
 x'.vs =
 vs ∧
 x'.vs.length =
 (c -
 (x_1.xs.length +
 (1 :
 Nat))) *
 (1 :
 Nat) ∧
 Vx.Sub
 ((Sw.runhexLoop
 g).G
 x')
 g.G ∧
 True)))))))))))))))) ∧
 (Decidable.decide
 (r < (↑g.s.size : Int)) =
 Bool.false →
 ∀ (r : Int), r = (↑g.s.size : Int).tmod (2 : Int) →
 ((r == (1 : Int)) = Bool.true →
 ∃ (y : Sw.MayY), Sw.conUnhex.post x y ∧
 y.p = Option.none ∧
 y.l = (0 : Nat) ∧
 y.c = (0 : Nat) ∧
 y.ok = Bool.false ∧
 Vx.Sub
 (Sw.conUnhex.G'
 x y)
 g.G ∧
 True) ∧
 ((r == (1 : Int)) = Bool.false →
 ∀ (a : Nat), g.G a = Option.none →
 ∃ (y : Sw.MayY), Sw.conUnhex.post x y ∧
 y.p =
 Option.some
 (Go.Addr.mk a
 (0 : Nat)
 Option.none) ∧
 y.l = x_1.xs.length ∧
 y.c =
 x_1.xs.length +
 x_1.vs.length ∧
 y.ok = Bool.true ∧
 Vx.Sub
 (Sw.conUnhex.G'
 x y)
 (Vx.addG a
 (Go.Obj.cells
 (List.map
 (Go.Value.int
 Go.IntKind.u8)
 x_1.xs ++
 x_1.vs).toArray
 (5 :
 Nat)
 (Vx.fzOf
 Bool.false
 (List.map
 (Go.Value.int
 Go.IntKind.u8)
 x_1.xs ++
 x_1.vs).length))
 g.G) ∧
 True))))))))))))) ∧
 (Decidable.decide ((1 : Int) < (↑x.s.size : Int)) = Bool.false →
 ∀ (r : Int), r = (↑x.s.size : Int).tmod (2 : Int) →
 ((r == (1 : Int)) = Bool.true →
 ∃ (y : Sw.MayY), Sw.conUnhex.post x y ∧ y.p = Option.none ∧ y.l = (0 : Nat) ∧ y.c = (0 : Nat) ∧ y.ok = Bool.false ∧ Vx.Sub (Sw.conUnhex.G' x y) x.G ∧ True) ∧
 ((r == (1 : Int)) = Bool.false →
 ∃ (y : Sw.MayY), Sw.conUnhex.post x y ∧ y.p = Option.none ∧ y.l = (0 : Nat) ∧ y.c = (0 : Nat) ∧ y.ok = Bool.true ∧ Vx.Sub (Sw.conUnhex.G' x y) x.G ∧ True))) := by kernel_rfl
theorem rsum_vc : (conSumS.Vc body31) = (
∀ (x : Sw.StrX), Sw.conSumS.pre x →
 ∃ (g : Sw.StrX), ∃ (x0 : Sw.RSumI), g.s = x.s ∧
 x0.n = (0 : Int) ∧
 (↑x0.i : Int) = (0 : Int) ∧
 Vx.Sub ((Sw.rsumL g).G x0) x.G ∧
 (Sw.rsumL g).inv x0 ∧
 ∀ (x_1 : Sw.RSumI), (Sw.rsumL g).inv x_1 →
 ∀ (d : Nat → Go.Value), (Decidable.decide ((↑x_1.i : Int) < (↑g.s.size : Int)) = Bool.true →
 ((0 : Int) ≤ (↑x_1.i : Int) ∧ (↑x_1.i : Int) < (↑g.s.size : Int)) ∧
 ((0 : Int) ≤ (↑x_1.i : Int) ∧ (↑x_1.i : Int) < (↑g.s.size : Int) →
 ∀ (r : Int), r = Go.IntKind.i64.wrap (Vx.byteAt g.s (↑x_1.i : Int)) →
 ∀ (r_1 : Int), r_1 = Go.IntKind.i64.wrap (x_1.n + r) →
 ∀ (r : Int), r = r_1.tmod (256 : Int) →
 ∀ (r_2 : Int), r_2 = Go.IntKind.i64.wrap ((↑x_1.i : Int) + (1 : Int)) →
 ∃ (x' : Sw.RSumI), (Sw.rsumL g).inv x' ∧
 (Sw.rsumL g).mea x' < (Sw.rsumL g).mea x_1 ∧
 g.s = g.s ∧ x'.n = r ∧ (↑x'.i : Int) = r_2 ∧ Vx.Sub ((Sw.rsumL g).G x') g.G ∧ True)) ∧
 (Decidable.decide ((↑x_1.i : Int) < (↑g.s.size : Int)) = Bool.false →
 ∀ (r : Int), r = Go.IntKind.u8.wrap x_1.n → ∃ (y : Int), Sw.conSumS.post x y ∧ y = r ∧ Vx.Sub (Sw.conSumS.G' x y) g.G ∧ True)) := by kernel_rfl
end Sw
end
section
/- gdb.Unhex, gdb.Sum and the document's do what is said. -/
namespace Sw
set_option maxRecDepth 100000
open Go Go.Proofs Vx

theorem valS_ok : valS.Vc body67 := by
  rw [valS_vc]
  intro x hx hp
  obtain ⟨h0, h1⟩ := (hx : IsByte (x.i 0))
  simp only [decide_eq_true_eq, decide_eq_false_iff_not, IntKind.wrap_u8']
  repeat' first | apply And.intro | intro _
  all_goals first | rfl | skip
  all_goals
    simp only [hexV]
    repeat' split
    all_goals first | rfl | (exfalso; omega) | (simp only [Option.getD_some, Option.getD_none]; omega)
theorem spec67p : SpecOk Tryz.prog 67 valS.spec :=
  PureS.sound rfl (fun _ => rfl) (body_ok (fun f => noSpec_ok _ f) (iter_ways 0) (fun vs w => Tryz.call67 vs w)) valS_ok
theorem rvalS_ok : rvalS.Vc body68p := by
  rw [rvalS_vc]
  intro x hx hp
  obtain ⟨hc0, hc1⟩ := (hx : IsByte (x.i 0))
  refine ⟨⟨x.i 0, hp⟩, ⟨0⟩, rfl, rfl, Sub.refl _, ⟨by show 0 ≤ 16; omega, fun j hj => by have : j < 0 := hj; omega⟩, fun z hz d => ?_⟩
  obtain ⟨h1, h2⟩ := (hz : z.i ≤ 16 ∧ ∀ j, j < z.i → byteAt smallD j ≠ x.i 0 ∧ byteAt greatD j ≠ x.i 0)
  have hit : z.i < 16 → (byteAt smallD z.i = x.i 0 ∨ byteAt greatD z.i = x.i 0) → (hexV (x.i 0)).getD 99 = (z.i : Int) := by
    intro hi hb
    rw [smallD_at _ hi, greatD_at _ hi] at hb
    unfold hexV
    have : hexD z.i = if z.i < 10 then 48 + (z.i : Int) else 87 + (z.i : Int) := by
      unfold hexD; split <;> split <;> omega
    rw [this] at hb
    rcases hb with hb | hb <;> split at hb <;> (repeat' split) <;> simp only [Option.getD_some, Option.getD_none] <;> omega
  refine ⟨fun hb => ?_, fun hb => ?_⟩
  · have hb := of_decide_eq_true hb
    refine ok_ (by omega) ⟨fun he => ⟨hit (by omega) (.inl (eq_b he)), rfl⟩, fun hne => ok_ (by omega) ⟨fun he => ⟨hit (by omega) (.inr (eq_b he)), rfl⟩, fun hne' r hr => ⟨⟨z.i + 1⟩, ⟨by show z.i + 1 ≤ 16; omega, fun j hj => ?_⟩, ?_, rfl, ?_, Sub.refl _, trivial⟩⟩⟩
    · have hj : j < z.i + 1 := hj
      rcases Nat.lt_or_ge j z.i with h | h
      · exact h2 j h
      · have : j = z.i := by omega
        subst this
        exact ⟨ne_b hne, ne_b hne'⟩
    · show 16 - (z.i + 1) < 16 - z.i
      omega
    · rw [hr, w64 _ (by omega) (by omega)]; rfl
  · have hb := of_decide_eq_false hb
    refine ⟨?_, rfl⟩
    have hno : ∀ j : Nat, j < 16 → x.i 0 ≠ hexD j ∧ x.i 0 ≠ (if j < 10 then 48 + (j : Int) else 55 + j) := fun j hj => by
      have := h2 j (by omega)
      rw [smallD_at _ hj, greatD_at _ hj] at this
      exact ⟨fun e => this.1 e.symm, fun e => this.2 e.symm⟩
    unfold hexV
    have key : ∀ j : Nat, j < 16 → x.i 0 ≠ (if (j : Int) < 10 then 48 + (j : Int) else 87 + j) ∧ x.i 0 ≠ (if j < 10 then 48 + (j : Int) else 55 + j) := hno
    split
    · have := (key (x.i 0 - 48).toNat (by omega)).1
      rw [if_pos (by omega)] at this
      omega
    · split
      · have := (key (x.i 0 - 87).toNat (by omega)).1
        rw [if_neg (by omega)] at this
        omega
      · split
        · have := (key (x.i 0 - 55).toNat (by omega)).2
          rw [if_neg (by omega)] at this
          omega
        · rfl
theorem spec68p : SpecOk Tryz.prog 68 rvalS.spec :=
  PureS.sound rfl (fun _ => rfl) (body_ok (fun f => noSpec_ok _ f) (fun _ => (famL_ok rvalLp _).ok) (fun vs w => Tryz.call68 vs w)) rvalS_ok

theorem hexV_lt {c v : Int} (h : hexV c = some v) : 0 ≤ v ∧ v < 16 := by
  unfold hexV at h
  repeat' split at h
  all_goals first | (cases h; omega) | cases h
theorem unhexL_app : ∀ a b : List Int, a.length % 2 = 0 → unhexL (a ++ b) = (match unhexL a, unhexL b with
    | some x, some y => some (x ++ y)
    | _, _ => none)
  | [], b, _ => by simp only [List.nil_append, unhexL]; cases unhexL b <;> rfl
  | [x], b, h => by simp at h
  | x :: y :: r, b, h => by
    have ih := unhexL_app r b (by simp at h; omega)
    simp only [List.cons_append, unhexL, ih]
    cases hexV x <;> cases hexV y <;> cases unhexL r <;> cases unhexL b <;> rfl
theorem unhexL_odd : ∀ a : List Int, a.length % 2 = 1 → unhexL a = none
  | [], h => by simp at h
  | [x], _ => rfl
  | x :: y :: r, h => by
    have ih := unhexL_odd r (by simp at h; omega)
    simp only [unhexL, ih]
    cases hexV x <;> cases hexV y <;> rfl
theorem unhexL_byte : ∀ (a : List Int) (l : List Int), unhexL a = some l → ∀ b ∈ l, IsByte b
  | [], l, h, b, hb => by cases h; cases hb
  | [x], l, h, b, hb => by cases h
  | x :: y :: r, l, h, b, hb => by
    simp only [unhexL] at h
    cases hx : hexV x with
    | none => rw [hx] at h; simp at h
    | some p =>
      cases hy : hexV y with
      | none => rw [hx, hy] at h; simp at h
      | some q =>
        cases hr : unhexL r with
        | none => rw [hx, hy, hr] at h; simp at h
        | some t =>
          rw [hx, hy, hr] at h
          simp only [Option.some.injEq] at h
          subst h
          obtain ⟨p0, p1⟩ := hexV_lt hx
          obtain ⟨q0, q1⟩ := hexV_lt hy
          rcases List.mem_cons.1 hb with rfl | hb
          · exact ⟨by omega, by omega⟩
          · exact unhexL_byte r t hr b hb
theorem unhexL_len : ∀ (a : List Int) (l : List Int), unhexL a = some l → a.length = 2 * l.length
  | [], l, h => by cases h; rfl
  | [x], l, h => by cases h
  | x :: y :: r, l, h => by
    simp only [unhexL] at h
    cases hx : hexV x with
    | none => rw [hx] at h; simp at h
    | some p =>
      cases hy : hexV y with
      | none => rw [hx, hy] at h; simp at h
      | some q =>
        cases hr : unhexL r with
        | none => rw [hx, hy, hr] at h; simp at h
        | some t =>
          rw [hx, hy, hr] at h
          simp only [Option.some.injEq] at h
          subst h
          have := unhexL_len r t hr
          simp only [List.length_cons]; omega
/-- A pair of digits more, and the rest. -/
theorem two_more {d : List Int} {i : Nat} (h : 2 * i + 1 < d.length) : ∃ t, d = d.take (2 * i) ++ (d.getD (2 * i) 0 :: d.getD (2 * i + 1) 0 :: t) ∧ d.take (2 * (i + 1)) = d.take (2 * i) ++ [d.getD (2 * i) 0, d.getD (2 * i + 1) 0] := by
  have e1 : d.getD (2 * i) 0 = d[2 * i] := getD_eq _ _ _ (by omega)
  have e2 : d.getD (2 * i + 1) 0 = d[2 * i + 1] := getD_eq _ _ _ h
  refine ⟨d.drop (2 * i + 2), ?_, ?_⟩
  · rw [e1, e2, List.getElem_cons_drop, List.getElem_cons_drop, List.take_append_drop]
  · have t1 := take_succ' d (2 * i + 1) h
    have t2 := take_succ' d (2 * i) (by omega)
    rw [show 2 * (i + 1) = 2 * i + 1 + 1 by omega, t1, t2, e1, e2, List.append_assoc]
    rfl
theorem byteAt_getD (s : ByteArray) (i : Nat) (h : i < s.size) : byteAt s (i : Int) = (bytesOf s).getD i 0 := by
  obtain ⟨hl, e⟩ := bytesOf_at s i h
  rw [e, getD_eq _ _ _ hl]
theorem bytesOf_isByte (s : ByteArray) (i : Nat) (h : i < s.size) : IsByte ((bytesOf s).getD i 0) := by
  have hl : i < (bytesOf s).length := by rw [bytesOf_length]; exact h
  rw [getD_eq _ _ _ hl]
  exact bytesOf_byte s _ (List.getElem_mem _)
theorem may_none {G : Nat → Option Obj} {want : Option (List Int)} (h : want = none) : MayOk G want ⟨none, 0, 0, [], false, G⟩ :=
  ⟨Sub.refl _, bs_nil _, h, fun _ => rfl⟩
theorem pair_u8 {a b : Int} (ha : 0 ≤ a ∧ a < 16) (hb : 0 ≤ b ∧ b < 16) : Vx.bits .or .u8 (shft .shl .u8 a 4) b = 16 * a + b := by
  have : ∀ i j : Fin 16, Vx.bits .or .u8 (shft .shl .u8 (i.val : Int) 4) (j.val : Int) = 16 * (i.val : Int) + (j.val : Int) := by decide +kernel
  have := this ⟨a.toNat, by omega⟩ ⟨b.toNat, by omega⟩
  simp only [] at this
  have e1 : ((a.toNat : Nat) : Int) = a := by omega
  have e2 : ((b.toNat : Nat) : Int) = b := by omega
  rwa [e1, e2] at this
theorem may_some {G : Nat → Option Obj} {want : Option (List Int)} {a : Nat} {xs : List Int} {vs : List Value} (hG : G a = none) (h : want = some xs) (hb : ∀ b ∈ xs, IsByte b) :
    MayOk G want ⟨some ⟨a, 0, none⟩, xs.length, xs.length + vs.length, xs, true, addG a (.cells (xs.map (Value.int .u8) ++ vs).toArray 5 (0, 0)) G⟩ :=
  ⟨addG_sub hG, bs_frz G a xs vs hb, h, fun h => by cases h⟩
theorem unhex_ok : conUnhex.VcT 1 body26 := by
  rw [unhex_vc]
  intro x hx r hr
  have hx : x.s.size ≤ 1000000 := hx
  have hL := bytesOf_length x.s
  rw [Int.tmod_eq_emod_of_nonneg (by omega)] at hr
  refine ⟨fun hne => ⟨_, may_none (unhexL_odd _ ?_), rfl, rfl, rfl, rfl, Sub.refl _, trivial⟩, fun heq r1 hr1 => ?_⟩
  · have : r ≠ 0 := by simpa using hne
    omega
  have heq : r = 0 := by simpa using heq
  rw [Int.tdiv_eq_ediv_of_nonneg (by omega), w64 _ (by omega) (by omega)] at hr1
  refine ok_ (by omega) (ok_ (by omega) (ok_ (by omega) fun vs hvs hone => ⟨x, ⟨0, [], vs⟩, rfl, rfl, ?_, rfl, rfl, rfl, rfl, ?_, Sub.refl _, ⟨Nat.zero_le _, rfl, hx, by omega⟩, fun z hz d => ?_⟩))
  · simp [hvs]
  · simp [hvs]
  obtain ⟨h1, h2, _, h4⟩ := (hz : 2 * z.i ≤ x.s.size ∧ unhexL ((bytesOf x.s).take (2 * z.i)) = some z.xs ∧ x.s.size ≤ 1000000 ∧ x.s.size % 2 = 0)
  have hzl := unhexL_len _ _ h2
  rw [List.length_take, hL] at hzl
  refine ⟨fun hlt => ?_, fun hge a ha => ?_⟩
  · have hlt := of_decide_eq_true hlt
    have e1 : (2 : Int) * (z.i : Int) = ((2 * z.i : Nat) : Int) := by omega
    rw [e1, byteAt_getD _ _ (by omega)]
    obtain ⟨t, t1, t2⟩ := two_more (d := bytesOf x.s) (i := z.i) (by omega)
    refine ok_ (by omega) (ok_ (bytesOf_isByte _ _ (by omega)) fun v1 hv1 b1 hb1 r2 hr2 => ?_)
    rw [w64 _ (by omega) (by omega)] at hr2
    have e2 : r2 = ((2 * z.i + 1 : Nat) : Int) := by omega
    subst e2
    rw [byteAt_getD _ _ (by omega)]
    refine ok_ (by omega) (ok_ (bytesOf_isByte _ _ (by omega)) fun v2 hv2 b2 hb2 => ?_)
    have bad : (hexV ((bytesOf x.s).getD (2 * z.i) 0) = none ∨ hexV ((bytesOf x.s).getD (2 * z.i + 1) 0) = none) → unhexL (bytesOf x.s) = none := fun h => by
      rw [t1, unhexL_app _ _ (by rw [List.length_take, hL]; omega), h2]
      simp only [unhexL]
      rcases h with h | h <;> rw [h]
      cases hexV ((bytesOf x.s).getD (2 * z.i) 0) <;> rfl
    refine ⟨fun hn => ⟨_, may_none (bad (.inl ?_)), rfl, rfl, rfl, rfl, Sub.refl _, trivial⟩, fun hy => ⟨fun hn => ⟨_, may_none (bad (.inr ?_)), rfl, rfl, rfl, rfl, Sub.refl _, trivial⟩, fun hy2 r3 hr3 r4 hr4 => ?_⟩⟩
    · rw [hb1] at hn; simpa using hn
    · rw [hb2] at hn; simpa using hn
    have hy : b1 = true := by simpa using hy
    have hy2 : b2 = true := by simpa using hy2
    rw [hb1] at hy
    rw [hb2] at hy2
    obtain ⟨p, hp⟩ := Option.isSome_iff_exists.1 hy
    obtain ⟨q, hq⟩ := Option.isSome_iff_exists.1 hy2
    rw [hp] at hv1
    rw [hq] at hv2
    simp only [Option.getD_some] at hv1 hv2
    subst hv1
    subst hv2
    rw [hr3, pair_u8 (hexV_lt hp) (hexV_lt hq)] at hr4
    refine ok_ (by omega) (ok_ (by omega) (ok_ rfl (ok_ (by omega) (ok_ (by omega) fun c ws hc hws hone' r5 hr5 => ?_))))
    rw [w64 _ (by omega) (by omega)] at hr5
    refine ⟨⟨z.i + 1, z.xs ++ [r4], ws⟩, ⟨by show 2 * (z.i + 1) ≤ x.s.size; omega, ?_, hx, h4⟩, ?_, rfl, ?_, ?_, ?_, rfl, ?_, rfl, ?_, Sub.refl _, trivial⟩
    · show unhexL ((bytesOf x.s).take (2 * (z.i + 1))) = some (z.xs ++ [r4])
      rw [t2, unhexL_app _ _ (by rw [List.length_take, hL]; omega), h2]
      simp only [unhexL, hp, hq, hr4]
    · show x.s.size - (z.i + 1) < x.s.size - z.i; omega
    · simp
    · simp [hws]; omega
    · show (2 : Int) * ((z.i + 1 : Nat) : Int) = r5; omega
    · simp
    · exact hws
  · have hge := of_decide_eq_false hge
    refine ⟨_, may_some ha ?_ (unhexL_byte _ _ h2), rfl, rfl, rfl, rfl, Sub.refl _, trivial⟩
    rw [← h2, List.take_of_length_le (by omega)]
theorem call26_ok (f : Nat) : SpecOk Tryz.prog f (call26 f) := by
  unfold call26
  cases h : Nat.beq f 67
  · exact noSpec_ok _ f
  · have := beq_t h
    subst this
    exact spec67p
theorem spec26 : SpecOk Tryz.prog 26 conUnhex.spec :=
  Con.soundT 1 (body_ok call26_ok (fun _ => (famL_ok unhexLoop _).ok) (fun vs w => Tryz.call26 vs w)) unhex_ok
theorem runhex_ok : conUnhex.VcT 1 body28 := by
  rw [runhex_vc]
  intro x hx
  have hx : x.s.size ≤ 1000000 := hx
  have hL := bytesOf_length x.s
  have v99 : ∀ c : Int, (hexV c = none → (hexV c).getD 99 = 99) ∧ ∀ v, hexV c = some v → (hexV c).getD 99 = v ∧ 0 ≤ v ∧ v < 16 := fun c =>
    ⟨fun h => by rw [h]; rfl, fun v h => by rw [h]; exact ⟨rfl, hexV_lt h⟩⟩
  have bad : ∀ {i : Nat} {l : List Int}, 2 * i + 1 < x.s.size → unhexL ((bytesOf x.s).take (2 * i)) = some l → (hexV ((bytesOf x.s).getD (2 * i) 0) = none ∨ hexV ((bytesOf x.s).getD (2 * i + 1) 0) = none) → unhexL (bytesOf x.s) = none := fun {i l} hi h2 h => by
    obtain ⟨t, t1, t2⟩ := two_more (d := bytesOf x.s) (i := i) (by omega)
    rw [t1, unhexL_app _ _ (by rw [List.length_take, hL]; omega), h2]
    simp only [unhexL]
    rcases h with h | h <;> rw [h]
    cases hexV ((bytesOf x.s).getD (2 * i) 0) <;> rfl
  have more : ∀ {i : Nat} {l : List Int} {p q : Int}, 2 * i + 1 < x.s.size → unhexL ((bytesOf x.s).take (2 * i)) = some l → hexV ((bytesOf x.s).getD (2 * i) 0) = some p → hexV ((bytesOf x.s).getD (2 * i + 1) 0) = some q →
      unhexL ((bytesOf x.s).take (2 * (i + 1))) = some (l ++ [16 * p + q]) := fun {i l p q} hi h2 hp hq => by
    obtain ⟨t, t1, t2⟩ := two_more (d := bytesOf x.s) (i := i) (by omega)
    rw [t2, unhexL_app _ _ (by rw [List.length_take, hL]; omega), h2]
    simp only [unhexL, hp, hq]
  have big : ∀ {c r : Int}, r = (hexV c).getD 99 → decide (r > 15) = true → hexV c = none := fun {c r} hr h => by
    have h := of_decide_eq_true h
    cases hv : hexV c with
    | none => rfl
    | some v => have := ((v99 c).2 v hv); omega
  have sml : ∀ {c r : Int}, r = (hexV c).getD 99 → decide (r > 15) = false → ∃ v, hexV c = some v ∧ r = v ∧ 0 ≤ v ∧ v < 16 := fun {c r} hr h => by
    have h := of_decide_eq_false h
    cases hv : hexV c with
    | none => rw [hv] at hr; simp at hr; omega
    | some v => have := ((v99 c).2 v hv); exact ⟨v, rfl, by omega, this.2.1, this.2.2⟩
  have comb : ∀ {p q r1 r2 r3 : Int}, 0 ≤ p ∧ p < 16 → 0 ≤ q ∧ q < 16 → r1 = IntKind.i64.wrap (p * 16) → r2 = IntKind.i64.wrap (r1 + q) → r3 = IntKind.u8.wrap r2 → r3 = 16 * p + q := fun hp hq h1 h2 h3 => by
    rw [w64 _ (by omega) (by omega)] at h1
    rw [w64 _ (by omega) (by omega)] at h2
    rw [IntKind.wrap_u8'] at h3
    omega
  refine ⟨fun hlt => ?_, fun hge r hr => ?_⟩
  · have hlt := of_decide_eq_true hlt
    have b0 : byteAt x.s 0 = (bytesOf x.s).getD (2 * 0) 0 := byteAt_getD x.s 0 (by omega)
    have b1 : byteAt x.s 1 = (bytesOf x.s).getD (2 * 0 + 1) 0 := byteAt_getD x.s 1 (by omega)
    have i0 : IsByte (byteAt x.s 0) := by rw [b0]; exact bytesOf_isByte x.s 0 (by omega)
    have i1 : IsByte (byteAt x.s 1) := by rw [b1]; exact bytesOf_isByte x.s 1 (by omega)
    have h0 : unhexL ((bytesOf x.s).take (2 * 0)) = some [] := rfl
    refine ok_ (by omega) (ok_ i0 fun r0 hr0 => ⟨fun hb => ⟨_, may_none (bad (by omega) h0 (.inl (by rw [← b0]; exact big hr0 hb))), rfl, rfl, rfl, rfl, Sub.refl _, trivial⟩, fun hs => ?_⟩)
    refine ok_ (by omega) (ok_ i1 fun r1 hr1 => ⟨fun hb => ⟨_, may_none (bad (by omega) h0 (.inr (by rw [← b1]; exact big hr1 hb))), rfl, rfl, rfl, rfl, Sub.refl _, trivial⟩, fun hs' => ?_⟩)
    obtain ⟨p, hp, rfl, hp'⟩ := sml hr0 hs
    obtain ⟨q, hq, rfl, hq'⟩ := sml hr1 hs'
    refine ok_ (by omega) (ok_ (by omega) (ok_ i0 fun r2 hr2 r3 hr3 => ok_ i1 fun r4 hr4 r5 hr5 r6 hr6 c vs hc hvs hone => ?_))
    rw [hp] at hr2
    rw [hq] at hr4
    simp only [Option.getD_some] at hr2 hr4
    subst hr2
    subst hr4
    have hval := comb hp' hq' hr3 hr5 hr6
    rw [b0] at hp
    rw [b1] at hq
    refine ⟨x, ⟨1, [r6], vs⟩, rfl, rfl, ?_, rfl, rfl, rfl, rfl, ?_, Sub.refl _, ⟨?_, ?_, hx⟩, fun z hz d r7 hr7 => ?_⟩
    · simp [hvs]; omega
    · exact hvs
    · show 2 * 1 ≤ x.s.size; omega
    · show unhexL ((bytesOf x.s).take (2 * 1)) = some [r6]
      rw [hval]; exact more (by omega) h0 hp hq
    obtain ⟨h1, h2, _⟩ := (hz : 2 * z.i ≤ x.s.size ∧ unhexL ((bytesOf x.s).take (2 * z.i)) = some z.xs ∧ x.s.size ≤ 1000000)
    have hzl := unhexL_len _ _ h2
    rw [List.length_take, hL] at hzl
    rw [w64 _ (by omega) (by omega)] at hr7
    have e1 : (2 : Int) * (z.i : Int) = ((2 * z.i : Nat) : Int) := by omega
    have e2 : r7 = ((2 * z.i + 1 : Nat) : Int) := by omega
    subst e2
    refine ⟨fun hl => ?_, fun hg r8 hr8 => ?_⟩
    · have hl := of_decide_eq_true hl
      have w1 : IntKind.i64.wrap (((2 * z.i : Nat) : Int) + 1) = ((2 * z.i + 1 : Nat) : Int) := by rw [w64 _ (by omega) (by omega)]; omega
      simp only [e1, w1]
      rw [byteAt_getD _ _ (by omega)]
      have j0 := bytesOf_isByte x.s (2 * z.i) (by omega)
      have j1 := bytesOf_isByte x.s (2 * z.i + 1) (by omega)
      refine ok_ (by omega) (ok_ j0 fun s0 hs0 => ⟨fun hb => ⟨_, may_none (bad (by omega) h2 (.inl (big hs0 hb))), rfl, rfl, rfl, rfl, Sub.refl _, trivial⟩, fun hsm0 s1 hs1 => ?_⟩)
      subst hs1
      rw [byteAt_getD _ _ (by omega)]
      refine ok_ (by omega) (ok_ j1 fun s2 hs2 => ⟨fun hb => ⟨_, may_none (bad (by omega) h2 (.inr (big hs2 hb))), rfl, rfl, rfl, rfl, Sub.refl _, trivial⟩, fun hsm2 => ?_⟩)
      obtain ⟨p', gp, rfl, gp'⟩ := sml hs0 hsm0
      obtain ⟨q', gq, rfl, gq'⟩ := sml hs2 hsm2
      refine ok_ (by omega) fun s3 hs3 => ?_
      subst hs3
      rw [byteAt_getD _ _ (by omega)]
      refine ok_ (by omega) (ok_ j0 fun s4 hs4 s5 hs5 => ok_ j1 fun s6 hs6 s7 hs7 s8 hs8 => ?_)
      rw [gp] at hs4
      rw [gq] at hs6
      simp only [Option.getD_some] at hs4 hs6
      subst hs4
      subst hs6
      have hval' := comb gp' gq' hs5 hs7 hs8
      refine ok_ (by omega) (ok_ (by omega) (ok_ trivial (ok_ (by omega) (ok_ (by omega) fun c' ws hc' hws hone' s9 hs9 => ?_))))
      rw [w64 _ (by omega) (by omega)] at hs9
      refine ⟨⟨z.i + 1, z.xs ++ [s8], ws⟩, ⟨by show 2 * (z.i + 1) ≤ x.s.size; omega, ?_, hx⟩, ?_, trivial, ?_, ?_, ?_, rfl, ?_, rfl, ?_, Sub.refl _, trivial⟩
      · show unhexL ((bytesOf x.s).take (2 * (z.i + 1))) = some (z.xs ++ [s8])
        rw [hval']; exact more (by omega) h2 gp gq
      · show x.s.size - (z.i + 1) < x.s.size - z.i; omega
      · simp
      · simp [hws]; omega
      · show (2 : Int) * ((z.i + 1 : Nat) : Int) = s9; omega
      · simp
      · exact hws
    · have hg := of_decide_eq_false hg
      rw [Int.tmod_eq_emod_of_nonneg (by omega)] at hr8
      refine ⟨fun ho => ⟨_, may_none (unhexL_odd _ ?_), rfl, rfl, rfl, rfl, Sub.refl _, trivial⟩, fun he a ha => ⟨_, may_some ha ?_ (unhexL_byte _ _ h2), rfl, rfl, rfl, rfl, Sub.refl _, trivial⟩⟩
      · have := eq_b ho; omega
      · have := ne_b he
        rw [← h2, List.take_of_length_le (by omega)]
  · have hge := of_decide_eq_false hge
    rw [Int.tmod_eq_emod_of_nonneg (by omega)] at hr
    refine ⟨fun ho => ⟨_, may_none (unhexL_odd _ ?_), rfl, rfl, rfl, rfl, Sub.refl _, trivial⟩, fun he => ⟨⟨none, 0, 0, [], true, x.G⟩, ⟨Sub.refl _, bs_nil _, ?_, fun h => by cases h⟩, rfl, rfl, rfl, rfl, Sub.refl _, trivial⟩⟩
    · have := eq_b ho; omega
    · have := ne_b he
      have : bytesOf x.s = [] := List.eq_nil_of_length_eq_zero (by omega)
      rw [this]; rfl
theorem call28_ok (f : Nat) : SpecOk Tryz.prog f (call28 f) := by
  unfold call28
  cases h : Nat.beq f 68
  · exact noSpec_ok _ f
  · have := beq_t h
    subst this
    exact spec68p
theorem spec28 : SpecOk Tryz.prog 28 conUnhex.spec :=
  Con.soundT 1 (body_ok call28_ok (fun _ => peel_ok (famL_ok runhexLoop _)) (fun vs w => Tryz.call28 vs w)) runhex_ok
theorem rsum_ok : conSumS.Vc body31 := by
  rw [rsum_vc]
  intro x hx
  have hx : x.s.size < 9223372036854775808 := hx
  refine ⟨x, ⟨0, 0⟩, rfl, rfl, rfl, Sub.refl _, ⟨Nat.zero_le _, rfl, hx⟩, fun z hz d => ?_⟩
  obtain ⟨h1, h2, _⟩ := (hz : z.i ≤ x.s.size ∧ z.n = sumS ((bytesOf x.s).take z.i) ∧ x.s.size < 9223372036854775808)
  have hn : ∀ l : List Int, 0 ≤ sumS l ∧ sumS l < 256 := fun l => by
    rcases List.eq_nil_or_concat l with rfl | ⟨l', b, rfl⟩
    · exact ⟨by decide, by decide⟩
    · rw [List.concat_eq_append, sumS, List.foldl_append]
      simp only [List.foldl_cons, List.foldl_nil, IntKind.wrap_u8']
      omega
  have hz0 := hn ((bytesOf x.s).take z.i)
  refine ⟨fun hb => ?_, fun hb r hr => ?_⟩
  · have hb := of_decide_eq_true hb
    obtain ⟨hl, e⟩ := bytesOf_at x.s z.i (by omega)
    have hby := bytesOf_byte x.s _ (List.getElem_mem hl)
    obtain ⟨g0, g1⟩ := hby
    refine ok_ (by omega) fun r hr r1 hr1 r2 hr2 r3 hr3 => ⟨⟨z.i + 1, r2⟩, ⟨by show z.i + 1 ≤ x.s.size; omega, ?_, hx⟩, ?_, rfl, rfl, ?_, Sub.refl _, trivial⟩
    · show r2 = sumS ((bytesOf x.s).take (z.i + 1))
      rw [e, w64 _ (by omega) (by omega)] at hr
      rw [w64 _ (by omega) (by omega)] at hr1
      rw [Int.tmod_eq_emod_of_nonneg (by omega)] at hr2
      rw [take_succ' _ _ hl, sumS, List.foldl_append]
      simp only [List.foldl_cons, List.foldl_nil, IntKind.wrap_u8']
      have : z.n = List.foldl (fun n b => IntKind.u8.wrap (n + b)) 0 ((bytesOf x.s).take z.i) := h2
      simp only [IntKind.wrap_u8'] at this
      rw [← this]
      omega
    · show x.s.size - (z.i + 1) < x.s.size - z.i; omega
    · rw [hr3, w64 _ (by omega) (by omega)]; rfl
  · have hb := of_decide_eq_false hb
    refine ⟨r, ?_, rfl, Sub.refl _, trivial⟩
    show r = sumS (bytesOf x.s)
    rw [hr, IntKind.wrap_u8', h2, List.take_of_length_le (by rw [bytesOf_length]; omega)]
    have := hn (bytesOf x.s)
    omega
theorem spec31 : SpecOk Tryz.prog 31 conSumS.spec :=
  Con.sound (body_ok (fun f => noSpec_ok _ f) (fun _ => (famL_ok rsumL _).ok) (fun vs w => Tryz.call31 vs w)) rsum_ok
end Sw
end
