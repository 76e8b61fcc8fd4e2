/- SaveWrites: from the arguments as the row reads them to a record. -/
import Derived.Test.YtafngdeeachggaaGreatSwLawP
import Derived.Test.YtafngdeeachggaaGreatVxArg
set_option linter.unusedVariables false
set_option linter.unusedSimpArgs false
namespace Sw
set_option maxRecDepth 100000
open Go Go.Proofs Vx

section
variable {H : Type} {enc : TypeId × Value → H} {P : Program} {W : World}
def heapG (W : World) : Nat → Option Obj := fun b => W.heap[b]?
theorem cells_get {a : Addr} {n : Nat} {c : List Value} (h : W.cells? 0 a n = some c) : c.length = n ∧ ∀ (j : Nat) (v : Value), c[j]? = some v → W.cell? (a.add j) = some v := by
  unfold World.cells? at h
  rw [if_pos (Nat.zero_le _)] at h
  obtain ⟨h1, h2⟩ := mapM_get h
  refine ⟨by simpa using h1, fun j v hj => ?_⟩
  have hlt : j < n := by
    have := (List.getElem?_eq_some_iff.1 hj).1
    rw [h1] at this; simpa using this
  obtain ⟨y, h3, h4⟩ := h2 j j (by simp [hlt])
  rw [hj] at h3
  cases h3
  exact h4
/-- A row of cells that lies in the world. -/
theorem rdS_of {a : Addr} {vs : List Value} (h : ∀ (j : Nat) (v : Value), vs[j]? = some v → W.cell? (a.add j) = some v) {len : Nat} (hl : vs = [] → len = 0) : RdS (heapG W) (some a) len vs := by
  cases vs with
  | nil => exact .inl ⟨hl rfl, rfl⟩
  | cons v vs =>
    have h0 := h 0 v rfl
    have ha : a.add 0 = a := rfl
    rw [ha] at h0
    obtain ⟨b, o, sp⟩ := a
    unfold World.cell? at h0
    cases hb : W.heap[b]? with
    | none => simp only [hb] at h0; cases h0
    | some ob =>
      cases ob with
      | cells c e fz =>
        simp only [hb] at h0
        cases sp with
        | some x => simp at h0
        | none =>
          refine .inr ⟨b, o, rfl, c, e, fz, hb, fun j u hj => ?_⟩
          have := h j u hj
          rw [addr_add, cell_of_row hb] at this
          exact this
      | _ => simp only [hb] at h0; cases h0
theorem bs_of {fuel : Nat} {t e : TypeId} {cs : List Value} {x : DataW H × List MemPlace} (ht : P.underlying t = some (.slice e)) (he : P.underlying e = some (.int .u8)) (hc : P.cellsOf e = 1) (h : Tr enc P W fuel t cs x) :
    ∃ p l c d, cs = [.slice p l c] ∧ Bs (heapG W) p l c d ∧ c ≤ maxLen := by
  rcases tr_slice ht h with rfl | ⟨a, len, cap, rfl, h1, h2, h3⟩
  · exact ⟨none, 0, 0, [], rfl, ⟨rfl, Nat.le_refl _, .inl ⟨rfl, rfl⟩, fun b hb => (by cases hb)⟩, by decide⟩
  · let f : Nat → Int := fun i => match W.cell? (a.add i) with | some (.int _ n) => n | _ => 0
    have key : ∀ i, i < len → W.cell? (a.add i) = some (.int .u8 (f i)) ∧ IsByte (f i) := by
      intro i hi
      obtain ⟨c, y, fu, g1, g2⟩ := h3 i hi
      rw [hc, Nat.mul_one] at g1
      obtain ⟨n, rfl, g3⟩ := tr_int he g2
      have g4 := (cells_get g1).2 0 _ rfl
      have ha : (a.add i).add 0 = a.add i := rfl
      rw [ha] at g4
      have hf : f i = n := by simp only [f, g4]
      rw [hf]
      refine ⟨g4, ?_⟩
      simp only [Lit.wf, Bool.and_eq_true, decide_eq_true_eq] at g3
      have e1 : IntKind.u8.min = 0 := by decide
      have e2 : IntKind.u8.max = 255 := by decide
      exact ⟨by omega, by omega⟩
    refine ⟨some a, len, cap, (List.range len).map f, rfl, ⟨by simp, h1, rdS_of (fun j v hj => ?_) (fun hv => ?_), fun b hb => ?_⟩, h2⟩
    · have hlt : j < len := by
        have := (List.getElem?_eq_some_iff.1 hj).1
        simpa using this
      simp [hlt] at hj
      subst hj
      exact (key j hlt).1
    · simpa using hv
    · obtain ⟨i, hi, rfl⟩ := List.mem_map.1 hb
      exact (key i (List.mem_range.1 hi)).2
end

section
variable {H : Type} {enc : TypeId × Value → H} {W : World}
theorem c5 : Tryz.prog.cellsOf 5 = 1 := by kernel_rfl
theorem c3 : Tryz.prog.cellsOf 3 = 1 := by kernel_rfl
theorem c4 : Tryz.prog.cellsOf 4 = 1 := by kernel_rfl
theorem c9 : Tryz.prog.cellsOf 9 = 1 := by kernel_rfl
theorem c22 : Tryz.prog.cellsOf 22 = 1 := by kernel_rfl
theorem c23 : Tryz.prog.cellsOf 23 = 1 := by kernel_rfl
theorem c26 : Tryz.prog.cellsOf 26 = 1 := by kernel_rfl
theorem c25 : Tryz.prog.cellsOf 25 = 6 := by kernel_rfl
theorem c28 : Tryz.prog.cellsOf 28 = 7 := by kernel_rfl
theorem c74 : Tryz.prog.cellsOf 74 = 3 := by kernel_rfl
theorem wf_i64 {n : Int} (h : (Lit.int .i64 n).wf = true) : -9223372036854775808 ≤ n ∧ n < 9223372036854775808 := by
  simp only [Lit.wf, Bool.and_eq_true, decide_eq_true_eq] at h
  have e1 : IntKind.i64.min = -9223372036854775808 := by decide
  have e2 : IntKind.i64.max = 9223372036854775807 := by decide
  omega
theorem wf_u64 {n : Int} (h : (Lit.int .u64 n).wf = true) : IsU64 n := by
  simp only [Lit.wf, Bool.and_eq_true, decide_eq_true_eq] at h
  have e1 : IntKind.u64.min = 0 := by decide
  have e2 : IntKind.u64.max = 18446744073709551615 := by decide
  exact ⟨by omega, by omega⟩
theorem list3 {α : Type} {l : List α} (h : l.length = 3) : ∃ a b c, l = [a, b, c] := by
  match l, h with
  | [a, b, c], _ => exact ⟨a, b, c, rfl⟩
theorem ev_of {fuel : Nat} {cs : List Value} {x : DataW H × List MemPlace} (h : Tr enc Tryz.prog W fuel 74 cs x) : ∃ e : Ev, cs = evCells e ∧ EvOk (heapG W) e ∧ e.c ≤ maxLen := by
  obtain ⟨h1, h2⟩ := tr_struct Tryz.underlying74 h
  rw [c74] at h1
  obtain ⟨a, b, c, rfl⟩ := list3 h1
  obtain ⟨_, _, k0⟩ := h2 _ (.head _)
  obtain ⟨_, _, k1⟩ := h2 _ (.tail _ (.head _))
  obtain ⟨_, _, k2⟩ := h2 _ (.tail _ (.tail _ (.head _)))
  simp only [c3, c22, c23, List.drop_zero, List.drop_succ_cons, List.take_succ_cons, List.take_zero] at k0 k1 k2
  obtain ⟨n, e0, w0⟩ := tr_int Tryz.underlying3 k0
  obtain ⟨m, e1, w1⟩ := tr_int Tryz.underlying22 k1
  obtain ⟨p, l, cc, d, e2, w2, w3⟩ := bs_of Tryz.underlying23 Tryz.underlying5 c5 k2
  cases e0; cases e1; cases e2
  exact ⟨⟨n, m, p, l, cc, d⟩, rfl, ⟨wf_i64 w0, wf_u64 w1, w2⟩, w3⟩

theorem evs_cell {a : Addr} : ∀ (evs : List Ev) (k : Nat), (∀ (i : Nat) (e : Ev), evs[i]? = some e → ∀ (r : Nat) (v : Value), (evCells e)[r]? = some v → W.cell? (a.add ((k + i) * 3 + r)) = some v) →
    ∀ (j : Nat) (v : Value), (evsCells evs)[j]? = some v → W.cell? (a.add (k * 3 + j)) = some v
  | [], _, _, j, v, hj => by simp [evsCells] at hj
  | e :: evs, k, h, j, v, hj => by
    by_cases h3 : j < 3
    · have : (evCells e)[j]? = some v := by
        rw [evsCells, List.getElem?_append_left (by simpa [evCells] using h3)] at hj
        exact hj
      exact h 0 e rfl j v this
    · rw [evsCells, List.getElem?_append_right (by simp [evCells]; omega)] at hj
      have := evs_cell evs (k + 1) (fun i e' he r u hr => by
        have := h (i + 1) e' (by simpa using he) r u hr
        rwa [show k + (i + 1) = k + 1 + i by omega] at this) (j - (evCells e).length) v hj
      have hl : (evCells e).length = 3 := rfl
      rw [hl] at this
      rwa [show (k + 1) * 3 + (j - 3) = k * 3 + j by omega] at this
theorem evs_make {a : Addr} {len : Nat} (h : ∀ i, i < len → ∃ e : Ev, (∀ (r : Nat) (v : Value), (evCells e)[r]? = some v → W.cell? (a.add (i * 3 + r)) = some v) ∧ EvOk (heapG W) e) : ∀ n, n ≤ len →
    ∃ evs : List Ev, evs.length = n ∧ ∀ (i : Nat) (e : Ev), evs[i]? = some e → (∀ (r : Nat) (v : Value), (evCells e)[r]? = some v → W.cell? (a.add (i * 3 + r)) = some v) ∧ EvOk (heapG W) e
  | 0, _ => ⟨[], rfl, fun i e he => by simp at he⟩
  | n + 1, hn => by
    obtain ⟨evs, h1, h2⟩ := evs_make h n (by omega)
    obtain ⟨e, h3⟩ := h n (by omega)
    refine ⟨evs ++ [e], by simp [h1], fun i e' he => ?_⟩
    by_cases hi : i < n
    · rw [List.getElem?_append_left (by omega)] at he
      exact h2 i e' he
    · rw [List.getElem?_append_right (by omega)] at he
      have : i - evs.length = 0 := by
        have := (List.getElem?_eq_some_iff.1 he).1
        simp at this; omega
      rw [this] at he
      cases he
      obtain rfl : i = n := by omega
      exact h3
theorem add_add (a : Addr) (i r : Nat) : (a.add i).add r = a.add (i + r) := by
  unfold Addr.add
  by_cases h1 : r = 0
  · subst h1; simp
  · by_cases h2 : i = 0
    · subst h2; simp [h1]
    · simp [h1, h2]; omega
theorem evs_of {fuel : Nat} {cs : List Value} {x : DataW H × List MemPlace} (h : Tr enc Tryz.prog W fuel 26 cs x) :
    ∃ p l c evs, cs = [.slice p l c] ∧ evs.length = l ∧ RdS (heapG W) p l (evsCells evs) ∧ (∀ e ∈ evs, EvOk (heapG W) e) ∧ l ≤ maxLen := by
  rcases tr_slice Tryz.underlying26 h with rfl | ⟨a, len, cap, rfl, h1, h2, h3⟩
  · exact ⟨none, 0, 0, [], rfl, rfl, .inl ⟨rfl, rfl⟩, fun e he => (by cases he), by decide⟩
  · have key : ∀ i, i < len → ∃ e : Ev, (∀ (r : Nat) (v : Value), (evCells e)[r]? = some v → W.cell? (a.add (i * 3 + r)) = some v) ∧ EvOk (heapG W) e := by
      intro i hi
      obtain ⟨c, y, f, g1, g2⟩ := h3 i hi
      rw [c74] at g1
      obtain ⟨e, rfl, g3, _⟩ := ev_of g2
      refine ⟨e, fun r v hr => ?_, g3⟩
      have := (cells_get g1).2 r v hr
      rwa [add_add] at this
    obtain ⟨evs, g1, g2⟩ := evs_make key len (Nat.le_refl _)
    refine ⟨some a, len, cap, evs, rfl, g1, rdS_of (fun j v hj => ?_) (fun hv => ?_), fun e he => ?_, by omega⟩
    · have := evs_cell (a := a) evs 0 (fun i e he r v hr => by
        have := (g2 i e he).1 r v hr
        rwa [Nat.zero_add]) j v hj
      rwa [show 0 * 3 + j = j by omega] at this
    · cases evs with
      | nil => exact g1.symm
      | cons e r => simp [evsCells, evCells] at hv
    · obtain ⟨i, hi, rfl⟩ := List.mem_iff_getElem.1 he
      exact (g2 i _ (List.getElem?_eq_getElem hi)).2

theorem list7 {α : Type} {l : List α} (h : l.length = 7) : ∃ a b c d e f g, l = [a, b, c, d, e, f, g] := by
  match l, h with
  | [a, b, c, d, e, f, g], _ => exact ⟨a, b, c, d, e, f, g, rfl⟩
theorem rec_of {fuel : Nat} {cs : List Value} {x : DataW H × List MemPlace} (h : Tr enc Tryz.prog W fuel 28 cs x) : ∃ r : RecX, r.G = heapG W ∧ RecOk r ∧ cs = (recRow r).vals [] := by
  obtain ⟨h1, h2⟩ := tr_struct Tryz.underlying28 h
  rw [c28] at h1
  obtain ⟨a, b, c, d, e, f, g, rfl⟩ := list7 h1
  obtain ⟨_, _, k0⟩ := h2 _ (.head _)
  obtain ⟨_, _, k1⟩ := h2 _ (.tail _ (.head _))
  simp only [c25, c26, List.drop_zero, List.drop_succ_cons, List.take_succ_cons, List.take_zero] at k0 k1
  obtain ⟨_, h3⟩ := tr_struct Tryz.underlying25 k0
  obtain ⟨_, _, m0⟩ := h3 _ (.head _)
  obtain ⟨_, _, m1⟩ := h3 _ (.tail _ (.head _))
  obtain ⟨_, _, m2⟩ := h3 _ (.tail _ (.tail _ (.head _)))
  obtain ⟨_, _, m3⟩ := h3 _ (.tail _ (.tail _ (.tail _ (.head _))))
  obtain ⟨_, _, m4⟩ := h3 _ (.tail _ (.tail _ (.tail _ (.tail _ (.head _)))))
  obtain ⟨_, _, m5⟩ := h3 _ (.tail _ (.tail _ (.tail _ (.tail _ (.tail _ (.head _))))))
  simp only [c22, c4, c23, c9, List.drop_zero, List.drop_succ_cons, List.take_succ_cons, List.take_zero] at m0 m1 m2 m3 m4 m5
  obtain ⟨ram, e0, w0⟩ := tr_int Tryz.underlying22 m0
  obtain ⟨sec, e1, w1⟩ := tr_int Tryz.underlying22 m1
  obtain ⟨lk, e2⟩ := tr_bool Tryz.underlying4 m2
  obtain ⟨dp, dl, dc, dd, e3, w3, _⟩ := bs_of Tryz.underlying23 Tryz.underlying5 c5 m3
  obtain ⟨ip, il, ic, id, e4, w4, _⟩ := bs_of Tryz.underlying23 Tryz.underlying5 c5 m4
  obtain ⟨nm, e5, w5⟩ := tr_string Tryz.underlying9 m5
  obtain ⟨ep, el, ec, evs, e6, w6, w7, w8, w9⟩ := evs_of k1
  cases e0; cases e1; cases e2; cases e3; cases e4; cases e5; cases e6
  have hm : maxLen < 9223372036854775808 := by decide
  exact ⟨⟨ram, sec, lk, dp, dl, dc, dd, ip, il, ic, id, nm, ep, el, ec, evs, heapG W⟩, rfl, ⟨wf_u64 w0, wf_u64 w1, w3, w4, w6, w7, w8, Nat.lt_of_le_of_lt w5 hm, Nat.lt_of_le_of_lt w9 hm⟩, rfl⟩
end
end Sw
