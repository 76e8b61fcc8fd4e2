/- vireolaw27.few and kinds do what is said. -/
import Derived.Test.YtafngdeeachggaaGreatSwRecV
import Derived.Test.YtafngdeeachggaaGreatSwBP
set_option linter.unusedVariables false
set_option linter.unusedSimpArgs false
namespace Sw
set_option maxRecDepth 100000
open Go Go.Proofs Vx

theorem Rd.part {G : Nat → Option Obj} {b o : Nat} {vs pre mid post : List Value} (h : Rd G b o vs) (e : vs = pre ++ mid ++ post) : Rd G b (o + pre.length) mid := by
  obtain ⟨c, el, fz, h1, h2⟩ := h
  refine ⟨c, el, fz, h1, fun j v hj => ?_⟩
  rw [Nat.add_assoc]
  apply h2
  have hlt : j < mid.length := (List.getElem?_eq_some_iff.1 hj).1
  rw [e, List.getElem?_append_left (by simp; omega), List.getElem?_append_right (by omega)]
  simpa using hj
theorem evsCells_split : ∀ (l : List Ev) (i : Nat) (h : i < l.length), ∃ pre post, evsCells l = pre ++ evCells l[i] ++ post ∧ pre.length = i * 3
  | e :: r, 0, _ => ⟨[], evsCells r, rfl, rfl⟩
  | e :: r, i + 1, h => by
    obtain ⟨pre, post, h1, h2⟩ := evsCells_split r i (by simpa using h)
    refine ⟨evCells e ++ pre, post, by simp [evsCells, h1], ?_⟩
    simp [evCells, h2]; omega
theorem ev_at {x : RecX} (hx : RecOk x) {i : Nat} (hi : i < x.el) : ∃ b o, x.ep = some ⟨b, o, none⟩ ∧ ∃ e, x.evs[i]? = some e ∧ Rd x.G b (o + i * 3) (evCells e) := by
  have hl : i < x.evs.length := by rw [hx.evLen]; exact hi
  rcases hx.evAt with ⟨h0, _⟩ | ⟨b, o, h1, h2⟩
  · omega
  · obtain ⟨pre, post, h3, h4⟩ := evsCells_split x.evs i hl
    refine ⟨b, o, h1, _, List.getElem?_eq_getElem hl, ?_⟩
    have := Rd.part h2 h3
    rwa [h4] at this

theorem few_ok : conFew.Vc body11 := by
  rw [few_vc]
  intro x hx
  have hx : RecOk x := hx
  have no : ∃ (y : Bool), conFew.post x y ∧ y = false ∧ Vx.Sub (conFew.G' x y) x.G ∧ True := ⟨false, fun h => (by cases h), rfl, Sub.refl _, trivial⟩
  refine ⟨fun _ => no, fun h1 => ⟨fun _ => no, fun h2 => ⟨fun _ => no, fun h3 => ⟨fun _ => no, fun h4 => ⟨fun h5 => ⟨fun _ => no, fun h6 => ?_⟩, fun h5 => ?_⟩⟩⟩⟩⟩
  all_goals
    have h1 := of_decide_eq_false h1
    have h2 := of_decide_eq_false h2
    have h3 := of_decide_eq_false h3
    have h4 := of_decide_eq_false h4
    refine ⟨x, ⟨0⟩, rfl, rfl, rfl, rfl, rfl, rfl, rfl, rfl, rfl, rfl, rfl, rfl, rfl, rfl, Sub.refl _, ⟨Nat.zero_le _, hx, fun j e _ hj => absurd hj (Nat.not_lt_zero _)⟩, ?_⟩
    intro y hy d
    obtain ⟨g1, _, g3⟩ := (hy : FewInv _ y)
    have g1 : y.i ≤ x.el := g1
    have g3 : ∀ (j : Nat) (e : Ev), x.evs[j]? = some e → j < y.i → e.l ≤ 200 := g3
    refine ⟨fun hb => ?_, fun hb => ?_⟩
    · have hb := of_decide_eq_true hb
      have hi : y.i < x.el := by omega
      obtain ⟨b, o, e1, e, e2, e3⟩ := ev_at hx hi
      refine ⟨by omega, fun _ => ⟨b, o, e1, e.k, e.a, e.p, e.l, e.c, e3, fun _ => no, fun hl => ⟨fun _ => ⟨fun _ => ⟨fun _ => no, fun _ r hr => ?_⟩, fun _ r hr => ?_⟩, fun _ r hr => ?_⟩⟩⟩
      all_goals
        have hl := of_decide_eq_false hl
        refine ⟨⟨y.i + 1⟩, ⟨hi, hx, fun j e' hj hjl => ?_⟩, ?_, ?_, rfl, rfl, rfl, rfl, rfl, rfl, rfl, rfl, rfl, rfl, rfl, rfl, rfl, Sub.refl _, trivial⟩
        · have hj : x.evs[j]? = some e' := hj
          by_cases hji : j = y.i
          · subst hji
            rw [hj] at e2
            cases e2
            omega
          · exact g3 j e' hj (by simp only [] at hjl; omega)
        · show x.el - (y.i + 1) < x.el - y.i
          omega
        · rw [hr, w64 _ (by omega) (by omega)]; rfl
    · have hb := of_decide_eq_false hb
      refine ⟨true, fun _ => ⟨by omega, by omega, by omega, by omega, fun e he => ?_⟩, rfl, Sub.refl _, trivial⟩
      obtain ⟨j, hj, rfl⟩ := List.mem_iff_getElem.1 he
      have hj' := hx.evLen
      exact g3 j _ (List.getElem?_eq_getElem hj) (by omega)
theorem spec11 : SpecOk Tryz.prog 11 conFew.spec :=
  Con.sound (body_ok (fun f => noSpec_ok _ f) (fun _ => (famL_ok fewL _).ok) (fun vs w => Tryz.call11 vs w)) few_ok

theorem kinds_ok : conKinds.Vc body12 := by
  rw [kinds_vc]
  intro x hx
  have hx : RecOk x := hx
  have no : ∃ (y : Bool), conKinds.post x y ∧ y = false ∧ Vx.Sub (conKinds.G' x y) x.G ∧ True := ⟨false, fun h => (by cases h), rfl, Sub.refl _, trivial⟩
  refine ⟨x, ⟨0⟩, rfl, rfl, rfl, rfl, rfl, rfl, rfl, rfl, rfl, rfl, rfl, rfl, rfl, rfl, Sub.refl _, ⟨Nat.zero_le _, hx, fun j e _ hj => absurd hj (Nat.not_lt_zero _)⟩, ?_⟩
  intro y hy d
  obtain ⟨g1, _, g3⟩ := (hy : KindsInv _ y)
  have g1 : y.i ≤ x.el := g1
  have g3 : ∀ (j : Nat) (e : Ev), x.evs[j]? = some e → j < y.i → IsByte e.k := g3
  have hbig := hx.evBig
  refine ⟨fun hb => ?_, fun hb => ?_⟩
  · have hb := of_decide_eq_true hb
    have hi : y.i < x.el := by omega
    obtain ⟨b, o, e1, e, e2, e3⟩ := ev_at hx hi
    have e4 : Rd x.G b (o + (y.i : Int).toNat * 3 + 0) [.int .i64 e.k] := Rd.part (pre := []) (mid := [.int .i64 e.k]) (post := [.int .u64 e.a, .slice e.p e.l e.c]) e3 rfl
    refine ⟨by omega, fun _ => ⟨b, o, e1, e.k, e4, fun _ => no, fun h1 => ⟨by omega, fun _ => ⟨b, o, e1, e.k, e4, fun _ => no, fun h2 r hr => ?_⟩⟩⟩⟩
    have h1 := of_decide_eq_false h1
    have h2 := of_decide_eq_false h2
    refine ⟨⟨y.i + 1⟩, ⟨hi, hx, fun j e' hj hjl => ?_⟩, ?_, ?_, rfl, rfl, rfl, rfl, rfl, rfl, rfl, rfl, rfl, rfl, rfl, rfl, rfl, Sub.refl _, trivial⟩
    · have hj : x.evs[j]? = some e' := hj
      by_cases hji : j = y.i
      · subst hji
        rw [hj] at e2
        cases e2
        exact ⟨by omega, by omega⟩
      · exact g3 j e' hj (by simp only [] at hjl; omega)
    · show x.el - (y.i + 1) < x.el - y.i
      omega
    · rw [hr, w64 _ (by omega) (by omega)]; rfl
  · have hb := of_decide_eq_false hb
    refine ⟨true, fun _ e he => ?_, rfl, Sub.refl _, trivial⟩
    obtain ⟨j, hj, rfl⟩ := List.mem_iff_getElem.1 he
    have hj' := hx.evLen
    exact g3 j _ (List.getElem?_eq_getElem hj) (by omega)
theorem spec12 : SpecOk Tryz.prog 12 conKinds.spec :=
  Con.sound (body_ok (fun f => noSpec_ok _ f) (fun _ => (famL_ok kindsL _).ok) (fun vs w => Tryz.call12 vs w)) kinds_ok
end Sw
