/- What this text proves, part by part: SaveWrites: from the arguments as the row reads them to a record. Numbers in pieces, read back: where they end; the plain law. save.reader.number, save.clone, word.Of: what they do. What SwRead's conditions come to, word for word: made by a program. save.reader.number, save.clone, word.Of do what is said. save.reader.text, event: what they do. What SwRead2's conditions come to, word for word: made by a program. save.reader.text and event do what is said. save.Parse, and the sum and the comparison of bytes that stay: what they do. No condition is added. -/
import Derived.Test.YtafngdeeachggaaGreatParses01
import Derived.Test.YtafngdeeachggaaGreatParses02
import Derived.Test.YtafngdeeachggaaGreatParses03
import Derived.Test.YtafngdeeachggaaGreatParses04
import Derived.Test.YtafngdeeachggaaGreatParses05
import Derived.Test.YtafngdeeachggaaGreatParses06
import Derived.Test.YtafngdeeachggaaGreatParses07
set_option linter.unusedVariables false
set_option linter.unusedSimpArgs false
section
/- SaveWrites: from the arguments as the row reads them to a record. -/
namespace Sw
set_option maxRecDepth 100000
open Go Go.Proofs Vx

section
variable {H : Type} {enc : TypeId × Value → H} {P : Program} {W : World}
def heapG (W : World) : Nat → Option Obj := fun b => W.heap[b]?
theorem cells_get {a : Addr} {n : Nat} {c : List Value} (h : W.cells? 0 a n = some c) : c.length = n ∧ ∀ (j : Nat) (v : Value), c[j]? = some v → W.cell? (a.add j) = some v := by
  unfold World.cells? at h
  rw [if_pos (Nat.zero_le _)] at h
  obtain ⟨h1, h2⟩ := mapM_get h
  refine ⟨by simpa using h1, fun j v hj => ?_⟩
  have hlt : j < n := by
    have := (List.getElem?_eq_some_iff.1 hj).1
    rw [h1] at this; simpa using this
  obtain ⟨y, h3, h4⟩ := h2 j j (by simp [hlt])
  rw [hj] at h3
  cases h3
  exact h4
/-- A row of cells that lies in the world. -/
theorem rdS_of {a : Addr} {vs : List Value} (h : ∀ (j : Nat) (v : Value), vs[j]? = some v → W.cell? (a.add j) = some v) {len : Nat} (hl : vs = [] → len = 0) : RdS (heapG W) (some a) len vs := by
  cases vs with
  | nil => exact .inl ⟨hl rfl, rfl⟩
  | cons v vs =>
    have h0 := h 0 v rfl
    have ha : a.add 0 = a := rfl
    rw [ha] at h0
    obtain ⟨b, o, sp⟩ := a
    unfold World.cell? at h0
    cases hb : W.heap[b]? with
    | none => simp only [hb] at h0; cases h0
    | some ob =>
      cases ob with
      | cells c e fz =>
        simp only [hb] at h0
        cases sp with
        | some x => simp at h0
        | none =>
          refine .inr ⟨b, o, rfl, c, e, fz, hb, fun j u hj => ?_⟩
          have := h j u hj
          rw [addr_add, cell_of_row hb] at this
          exact this
      | _ => simp only [hb] at h0; cases h0
theorem bs_of {fuel : Nat} {t e : TypeId} {cs : List Value} {x : DataW H × List MemPlace} (ht : P.underlying t = some (.slice e)) (he : P.underlying e = some (.int .u8)) (hc : P.cellsOf e = 1) (h : Tr enc P W fuel t cs x) :
    ∃ p l c d, cs = [.slice p l c] ∧ Bs (heapG W) p l c d ∧ c ≤ maxLen := by
  rcases tr_slice ht h with rfl | ⟨a, len, cap, rfl, h1, h2, h3⟩
  · exact ⟨none, 0, 0, [], rfl, ⟨rfl, Nat.le_refl _, .inl ⟨rfl, rfl⟩, fun b hb => (by cases hb)⟩, by decide⟩
  · let f : Nat → Int := fun i => match W.cell? (a.add i) with | some (.int _ n) => n | _ => 0
    have key : ∀ i, i < len → W.cell? (a.add i) = some (.int .u8 (f i)) ∧ IsByte (f i) := by
      intro i hi
      obtain ⟨c, y, fu, g1, g2⟩ := h3 i hi
      rw [hc, Nat.mul_one] at g1
      obtain ⟨n, rfl, g3⟩ := tr_int he g2
      have g4 := (cells_get g1).2 0 _ rfl
      have ha : (a.add i).add 0 = a.add i := rfl
      rw [ha] at g4
      have hf : f i = n := by simp only [f, g4]
      rw [hf]
      refine ⟨g4, ?_⟩
      simp only [Lit.wf, Bool.and_eq_true, decide_eq_true_eq] at g3
      have e1 : IntKind.u8.min = 0 := by decide
      have e2 : IntKind.u8.max = 255 := by decide
      exact ⟨by omega, by omega⟩
    refine ⟨some a, len, cap, (List.range len).map f, rfl, ⟨by simp, h1, rdS_of (fun j v hj => ?_) (fun hv => ?_), fun b hb => ?_⟩, h2⟩
    · have hlt : j < len := by
        have := (List.getElem?_eq_some_iff.1 hj).1
        simpa using this
      simp [hlt] at hj
      subst hj
      exact (key j hlt).1
    · simpa using hv
    · obtain ⟨i, hi, rfl⟩ := List.mem_map.1 hb
      exact (key i (List.mem_range.1 hi)).2
end

section
variable {H : Type} {enc : TypeId × Value → H} {W : World}
theorem c5 : Tryz.prog.cellsOf 5 = 1 := by kernel_rfl
theorem c3 : Tryz.prog.cellsOf 3 = 1 := by kernel_rfl
theorem c4 : Tryz.prog.cellsOf 4 = 1 := by kernel_rfl
theorem c9 : Tryz.prog.cellsOf 9 = 1 := by kernel_rfl
theorem c22 : Tryz.prog.cellsOf 22 = 1 := by kernel_rfl
theorem c23 : Tryz.prog.cellsOf 23 = 1 := by kernel_rfl
theorem c26 : Tryz.prog.cellsOf 26 = 1 := by kernel_rfl
theorem c25 : Tryz.prog.cellsOf 25 = 6 := by kernel_rfl
theorem c28 : Tryz.prog.cellsOf 28 = 7 := by kernel_rfl
theorem c74 : Tryz.prog.cellsOf 74 = 3 := by kernel_rfl
theorem wf_i64 {n : Int} (h : (Lit.int .i64 n).wf = true) : -9223372036854775808 ≤ n ∧ n < 9223372036854775808 := by
  simp only [Lit.wf, Bool.and_eq_true, decide_eq_true_eq] at h
  have e1 : IntKind.i64.min = -9223372036854775808 := by decide
  have e2 : IntKind.i64.max = 9223372036854775807 := by decide
  omega
theorem wf_u64 {n : Int} (h : (Lit.int .u64 n).wf = true) : IsU64 n := by
  simp only [Lit.wf, Bool.and_eq_true, decide_eq_true_eq] at h
  have e1 : IntKind.u64.min = 0 := by decide
  have e2 : IntKind.u64.max = 18446744073709551615 := by decide
  exact ⟨by omega, by omega⟩
theorem list3 {α : Type} {l : List α} (h : l.length = 3) : ∃ a b c, l = [a, b, c] := by
  match l, h with
  | [a, b, c], _ => exact ⟨a, b, c, rfl⟩
theorem ev_of {fuel : Nat} {cs : List Value} {x : DataW H × List MemPlace} (h : Tr enc Tryz.prog W fuel 74 cs x) : ∃ e : Ev, cs = evCells e ∧ EvOk (heapG W) e ∧ e.c ≤ maxLen := by
  obtain ⟨h1, h2⟩ := tr_struct Tryz.underlying74 h
  rw [c74] at h1
  obtain ⟨a, b, c, rfl⟩ := list3 h1
  obtain ⟨_, _, k0⟩ := h2 _ (.head _)
  obtain ⟨_, _, k1⟩ := h2 _ (.tail _ (.head _))
  obtain ⟨_, _, k2⟩ := h2 _ (.tail _ (.tail _ (.head _)))
  simp only [c3, c22, c23, List.drop_zero, List.drop_succ_cons, List.take_succ_cons, List.take_zero] at k0 k1 k2
  obtain ⟨n, e0, w0⟩ := tr_int Tryz.underlying3 k0
  obtain ⟨m, e1, w1⟩ := tr_int Tryz.underlying22 k1
  obtain ⟨p, l, cc, d, e2, w2, w3⟩ := bs_of Tryz.underlying23 Tryz.underlying5 c5 k2
  cases e0; cases e1; cases e2
  exact ⟨⟨n, m, p, l, cc, d⟩, rfl, ⟨wf_i64 w0, wf_u64 w1, w2⟩, w3⟩

theorem evs_cell {a : Addr} : ∀ (evs : List Ev) (k : Nat), (∀ (i : Nat) (e : Ev), evs[i]? = some e → ∀ (r : Nat) (v : Value), (evCells e)[r]? = some v → W.cell? (a.add ((k + i) * 3 + r)) = some v) →
    ∀ (j : Nat) (v : Value), (evsCells evs)[j]? = some v → W.cell? (a.add (k * 3 + j)) = some v
  | [], _, _, j, v, hj => by simp [evsCells] at hj
  | e :: evs, k, h, j, v, hj => by
    by_cases h3 : j < 3
    · have : (evCells e)[j]? = some v := by
        rw [evsCells, List.getElem?_append_left (by simpa [evCells] using h3)] at hj
        exact hj
      exact h 0 e rfl j v this
    · rw [evsCells, List.getElem?_append_right (by simp [evCells]; omega)] at hj
      have := evs_cell evs (k + 1) (fun i e' he r u hr => by
        have := h (i + 1) e' (by simpa using he) r u hr
        rwa [show k + (i + 1) = k + 1 + i by omega] at this) (j - (evCells e).length) v hj
      have hl : (evCells e).length = 3 := rfl
      rw [hl] at this
      rwa [show (k + 1) * 3 + (j - 3) = k * 3 + j by omega] at this
theorem evs_make {a : Addr} {len : Nat} (h : ∀ i, i < len → ∃ e : Ev, (∀ (r : Nat) (v : Value), (evCells e)[r]? = some v → W.cell? (a.add (i * 3 + r)) = some v) ∧ EvOk (heapG W) e) : ∀ n, n ≤ len →
    ∃ evs : List Ev, evs.length = n ∧ ∀ (i : Nat) (e : Ev), evs[i]? = some e → (∀ (r : Nat) (v : Value), (evCells e)[r]? = some v → W.cell? (a.add (i * 3 + r)) = some v) ∧ EvOk (heapG W) e
  | 0, _ => ⟨[], rfl, fun i e he => by simp at he⟩
  | n + 1, hn => by
    obtain ⟨evs, h1, h2⟩ := evs_make h n (by omega)
    obtain ⟨e, h3⟩ := h n (by omega)
    refine ⟨evs ++ [e], by simp [h1], fun i e' he => ?_⟩
    by_cases hi : i < n
    · rw [List.getElem?_append_left (by omega)] at he
      exact h2 i e' he
    · rw [List.getElem?_append_right (by omega)] at he
      have : i - evs.length = 0 := by
        have := (List.getElem?_eq_some_iff.1 he).1
        simp at this; omega
      rw [this] at he
      cases he
      obtain rfl : i = n := by omega
      exact h3
theorem add_add (a : Addr) (i r : Nat) : (a.add i).add r = a.add (i + r) := by
  unfold Addr.add
  by_cases h1 : r = 0
  · subst h1; simp
  · by_cases h2 : i = 0
    · subst h2; simp [h1]
    · simp [h1, h2]; omega
theorem evs_of {fuel : Nat} {cs : List Value} {x : DataW H × List MemPlace} (h : Tr enc Tryz.prog W fuel 26 cs x) :
    ∃ p l c evs, cs = [.slice p l c] ∧ evs.length = l ∧ RdS (heapG W) p l (evsCells evs) ∧ (∀ e ∈ evs, EvOk (heapG W) e) ∧ l ≤ maxLen := by
  rcases tr_slice Tryz.underlying26 h with rfl | ⟨a, len, cap, rfl, h1, h2, h3⟩
  · exact ⟨none, 0, 0, [], rfl, rfl, .inl ⟨rfl, rfl⟩, fun e he => (by cases he), by decide⟩
  · have key : ∀ i, i < len → ∃ e : Ev, (∀ (r : Nat) (v : Value), (evCells e)[r]? = some v → W.cell? (a.add (i * 3 + r)) = some v) ∧ EvOk (heapG W) e := by
      intro i hi
      obtain ⟨c, y, f, g1, g2⟩ := h3 i hi
      rw [c74] at g1
      obtain ⟨e, rfl, g3, _⟩ := ev_of g2
      refine ⟨e, fun r v hr => ?_, g3⟩
      have := (cells_get g1).2 r v hr
      rwa [add_add] at this
    obtain ⟨evs, g1, g2⟩ := evs_make key len (Nat.le_refl _)
    refine ⟨some a, len, cap, evs, rfl, g1, rdS_of (fun j v hj => ?_) (fun hv => ?_), fun e he => ?_, by omega⟩
    · have := evs_cell (a := a) evs 0 (fun i e he r v hr => by
        have := (g2 i e he).1 r v hr
        rwa [Nat.zero_add]) j v hj
      rwa [show 0 * 3 + j = j by omega] at this
    · cases evs with
      | nil => exact g1.symm
      | cons e r => simp [evsCells, evCells] at hv
    · obtain ⟨i, hi, rfl⟩ := List.mem_iff_getElem.1 he
      exact (g2 i _ (List.getElem?_eq_getElem hi)).2

theorem list7 {α : Type} {l : List α} (h : l.length = 7) : ∃ a b c d e f g, l = [a, b, c, d, e, f, g] := by
  match l, h with
  | [a, b, c, d, e, f, g], _ => exact ⟨a, b, c, d, e, f, g, rfl⟩
theorem rec_of {fuel : Nat} {cs : List Value} {x : DataW H × List MemPlace} (h : Tr enc Tryz.prog W fuel 28 cs x) : ∃ r : RecX, r.G = heapG W ∧ RecOk r ∧ cs = (recRow r).vals [] := by
  obtain ⟨h1, h2⟩ := tr_struct Tryz.underlying28 h
  rw [c28] at h1
  obtain ⟨a, b, c, d, e, f, g, rfl⟩ := list7 h1
  obtain ⟨_, _, k0⟩ := h2 _ (.head _)
  obtain ⟨_, _, k1⟩ := h2 _ (.tail _ (.head _))
  simp only [c25, c26, List.drop_zero, List.drop_succ_cons, List.take_succ_cons, List.take_zero] at k0 k1
  obtain ⟨_, h3⟩ := tr_struct Tryz.underlying25 k0
  obtain ⟨_, _, m0⟩ := h3 _ (.head _)
  obtain ⟨_, _, m1⟩ := h3 _ (.tail _ (.head _))
  obtain ⟨_, _, m2⟩ := h3 _ (.tail _ (.tail _ (.head _)))
  obtain ⟨_, _, m3⟩ := h3 _ (.tail _ (.tail _ (.tail _ (.head _))))
  obtain ⟨_, _, m4⟩ := h3 _ (.tail _ (.tail _ (.tail _ (.tail _ (.head _)))))
  obtain ⟨_, _, m5⟩ := h3 _ (.tail _ (.tail _ (.tail _ (.tail _ (.tail _ (.head _))))))
  simp only [c22, c4, c23, c9, List.drop_zero, List.drop_succ_cons, List.take_succ_cons, List.take_zero] at m0 m1 m2 m3 m4 m5
  obtain ⟨ram, e0, w0⟩ := tr_int Tryz.underlying22 m0
  obtain ⟨sec, e1, w1⟩ := tr_int Tryz.underlying22 m1
  obtain ⟨lk, e2⟩ := tr_bool Tryz.underlying4 m2
  obtain ⟨dp, dl, dc, dd, e3, w3, _⟩ := bs_of Tryz.underlying23 Tryz.underlying5 c5 m3
  obtain ⟨ip, il, ic, id, e4, w4, _⟩ := bs_of Tryz.underlying23 Tryz.underlying5 c5 m4
  obtain ⟨nm, e5, w5⟩ := tr_string Tryz.underlying9 m5
  obtain ⟨ep, el, ec, evs, e6, w6, w7, w8, w9⟩ := evs_of k1
  cases e0; cases e1; cases e2; cases e3; cases e4; cases e5; cases e6
  have hm : maxLen < 9223372036854775808 := by decide
  exact ⟨⟨ram, sec, lk, dp, dl, dc, dd, ip, il, ic, id, nm, ep, el, ec, evs, heapG W⟩, rfl, ⟨wf_u64 w0, wf_u64 w1, w3, w4, w6, w7, w8, Nat.lt_of_le_of_lt w5 hm, Nat.lt_of_le_of_lt w9 hm⟩, rfl⟩
end
end Sw
end
section
/- Numbers in pieces, read back: where they end; the plain law. -/
namespace Sw
open Go Vx

/-- Where a number's pieces end is seen from themselves. -/
theorem numB_pref : ∀ (k n m : Nat) (r s : List Int), n < 128 ^ k → m < 128 ^ k → numB k n ++ r = numB k m ++ s → (0 < k) → n = m ∧ r = s
  | 0, _, _, _, _, _, _, _, h => by omega
  | k + 1, n, m, r, s, hn, hm, h, _ => by
    unfold numB at h
    split at h <;> split at h
    · simp only [List.cons_append, List.nil_append, List.cons.injEq] at h
      exact ⟨by omega, h.2⟩
    · simp only [List.cons_append, List.nil_append, List.cons.injEq] at h
      omega
    · simp only [List.cons_append, List.nil_append, List.cons.injEq] at h
      omega
    · simp only [List.cons_append, List.cons.injEq] at h
      rw [Nat.pow_succ] at hn hm
      obtain ⟨h1, h2⟩ := h
      have hk : 0 < k := by
        rcases Nat.eq_zero_or_pos k with rfl | hk
        · simp at hn; omega
        · exact hk
      obtain ⟨h3, h4⟩ := numB_pref k (n / 128) (m / 128) r s (by omega) (by omega) h2 hk
      exact ⟨by omega, h4⟩
theorem num_inj {n m : Nat} {r s : List Int} (hn : n < 18446744073709551616) (hm : m < 18446744073709551616) (h : numB 10 n ++ r = numB 10 m ++ s) : n = m ∧ r = s :=
  numB_pref 10 n m r s (by omega) (by omega) h (by omega)

/-- What is known behind i pieces, all marked: the low bits; what the pieces that follow have to be. -/
structure Half (d0 : List Int) (i lo : Nat) (d : List Int) : Prop where
  i9 : i ≤ 9
  low : lo < 128 ^ i
  put : ∀ hi : Nat, (0 < i → 0 < hi) → lo + hi * 128 ^ i < 18446744073709551616 → ∀ rest, d = numB (10 - i) hi ++ rest → d0 = numB 10 (lo + hi * 128 ^ i) ++ rest
  get : ∀ (v : Nat) rest, v < 18446744073709551616 → d0 = numB 10 v ++ rest → ∃ hi, v = lo + hi * 128 ^ i ∧ d = numB (10 - i) hi ++ rest ∧ (0 < i → 0 < hi)
theorem Half.start (d0 : List Int) : Half d0 0 0 d0 :=
  ⟨by omega, by simp, fun hi _ _ rest h => by simpa using h, fun v rest hv h => ⟨v, by simp, h, by omega⟩⟩
theorem Half.next {d0 : List Int} {i lo : Nat} {b : Int} {d : List Int} (h : Half d0 i lo (b :: d)) (hb : 128 ≤ b) (hb' : b < 256) (h9 : i ≠ 9) : Half d0 (i + 1) (lo + (b.toNat - 128) * 128 ^ i) d := by
  obtain ⟨g1, g2, g3, g4⟩ := h
  obtain ⟨k, hk⟩ : ∃ k, 10 - i = k + 1 := ⟨9 - i, by omega⟩
  obtain ⟨c, rfl⟩ := Int.eq_ofNat_of_zero_le (by omega : 0 ≤ b)
  have hp : 0 < 128 ^ i := Nat.pow_pos (by omega)
  simp only [Int.toNat_natCast]
  have hk' : 10 - (i + 1) = k := by omega
  obtain ⟨c, rfl⟩ : ∃ c', c = c' + 128 := ⟨c - 128, by omega⟩
  rw [Nat.add_sub_cancel]
  have hc : c < 128 := by omega
  have e : ∀ hi, lo + c * 128 ^ i + hi * 128 ^ (i + 1) = lo + (c + 128 * hi) * 128 ^ i := fun hi => by
    rw [Nat.pow_succ, Nat.add_mul, Nat.mul_assoc, Nat.mul_comm (128 ^ i) 128, ← Nat.mul_assoc, ← Nat.mul_assoc, Nat.mul_comm hi 128]; omega
  refine ⟨by omega, ?_, fun hi hpos hlt rest hd => ?_, fun v rest hv h => ?_⟩
  · have : c * 128 ^ i ≤ 127 * 128 ^ i := Nat.mul_le_mul_right _ (by omega)
    rw [Nat.pow_succ]; omega
  · rw [e] at hlt ⊢
    refine g3 (c + 128 * hi) (fun _ => by have := hpos (by omega); omega) hlt rest ?_
    have hpos := hpos (by omega)
    rw [hk, numB, if_neg (by omega), hd, hk']
    have e1 : (c + 128 * hi) % 128 = c := by omega
    have e2 : (c + 128 * hi) / 128 = hi := by omega
    rw [e1, e2]
    rfl
  · obtain ⟨hi, h1, h2, h3⟩ := g4 v rest hv h
    rw [hk, numB] at h2
    split at h2
    · simp only [List.cons_append, List.nil_append, List.cons.injEq] at h2
      omega
    · simp only [List.cons_append, List.cons.injEq] at h2
      refine ⟨hi / 128, ?_, by rw [hk']; exact h2.2, fun _ => by omega⟩
      rw [e, h1]
      have : c + 128 * (hi / 128) = hi := by omega
      rw [this]
theorem Half.last {d0 : List Int} {i lo : Nat} {b : Int} {d : List Int} (h : Half d0 i lo (b :: d)) (hb0 : 0 ≤ b) (hb : b < 128) (h0 : 0 < i → b ≠ 0) (h9 : i = 9 → b ≤ 1) :
    lo + b.toNat * 128 ^ i < 18446744073709551616 ∧ d0 = numB 10 (lo + b.toNat * 128 ^ i) ++ d := by
  obtain ⟨g1, g2, g3, g4⟩ := h
  obtain ⟨c, rfl⟩ := Int.eq_ofNat_of_zero_le hb0
  simp only [Int.toNat_natCast]
  have hlt : lo + c * 128 ^ i < 18446744073709551616 := by
    by_cases e : i = 9
    · subst e
      have := h9 rfl
      have : c * 128 ^ 9 ≤ 1 * 128 ^ 9 := Nat.mul_le_mul_right _ (by omega)
      omega
    · have h1 : 128 ^ i ≤ 128 ^ 8 := Nat.pow_le_pow_right (by omega) (by omega)
      have : c * 128 ^ i ≤ 127 * 128 ^ 8 := Nat.mul_le_mul (by omega) h1
      omega
  refine ⟨hlt, g3 c (fun hi => by have := h0 hi; omega) hlt d ?_⟩
  obtain ⟨k, hk⟩ : ∃ k, 10 - i = k + 1 := ⟨9 - i, by omega⟩
  rw [hk, numB, if_pos (by omega)]
  rfl
theorem Half.no {d0 : List Int} {i lo : Nat} {d : List Int} (h : Half d0 i lo d) (hbad : d = [] ∨ (i = 9 ∧ ∃ b r, d = b :: r ∧ 1 < b) ∨ (0 < i ∧ ∃ r, d = 0 :: r)) :
    ¬ ∃ (v : Nat) (rest : List Int), v < 18446744073709551616 ∧ d0 = numB 10 v ++ rest := by
  rintro ⟨v, rest, hv, hd⟩
  obtain ⟨g1, g2, g3, g4⟩ := h
  obtain ⟨hi, h1, h2, h3⟩ := g4 v rest hv hd
  obtain ⟨k, hk⟩ : ∃ k, 10 - i = k + 1 := ⟨9 - i, by omega⟩
  rw [hk, numB] at h2
  rcases hbad with rfl | ⟨rfl, b, r, rfl, hb⟩ | ⟨hi0, r, rfl⟩
  · split at h2 <;> simp at h2
  · have : hi ≤ 1 := by
      rcases Nat.lt_or_ge 1 hi with h | h
      · have : 2 * 128 ^ 9 ≤ hi * 128 ^ 9 := Nat.mul_le_mul_right _ h
        omega
      · exact h
    rw [if_pos (by omega)] at h2
    simp only [List.cons_append, List.nil_append, List.cons.injEq] at h2
    omega
  · have := h3 hi0
    split at h2
    · simp only [List.cons_append, List.nil_append, List.cons.injEq] at h2
      omega
    · simp only [List.cons_append, List.cons.injEq] at h2
      omega
end Sw
end
section
/- save.reader.number, save.clone, word.Of: what they do. -/
namespace Sw
open Go Go.Proofs Vx

/-- A reader: where its bytes lie, which they are, and whether something was wrong. -/
structure RdrX where
  p : Option Addr
  l : Nat
  c : Nat
  d : List Int
  bad : Bool
  G : Nat → Option Obj
def rdrRow (p : Option Addr) (l c : Nat) (bad : Bool) : SV := .cons (.gsl p (.v l) (.v c)) (.cons (.bool (.v bad)) .nil)
def RdrOk (x : RdrX) : Prop := Bs x.G x.p x.l x.c x.d ∧ x.l ≤ 1000000
def HasNum (d : List Int) : Prop := ∃ (v : Nat) (rest : List Int), v < 18446744073709551616 ∧ d = numB 10 v ++ rest
structure NumY where
  v : Int
  p : Option Addr
  l : Nat
  c : Nat
  d : List Int
  bad : Bool
def RNumPost (x : RdrX) (y : NumY) : Prop := Bs x.G y.p y.l y.c y.d ∧ y.l ≤ x.l ∧ IsU64 y.v ∧
  ((y.bad = true ∧ (x.bad = true ∨ ¬ HasNum x.d)) ∨ (y.bad = x.bad ∧ x.d = numB 10 y.v.toNat ++ y.d))
structure RNumI where
  lo : Int
  i : Nat
  p : Option Addr
  l : Nat
  c : Nat
  d : List Int
def RNumInv (x : RdrX) (z : RNumI) : Prop := Half x.d z.i z.lo.toNat z.d ∧ 0 ≤ z.lo ∧ Bs x.G z.p z.l z.c z.d ∧ z.l ≤ x.l ∧ x.l ≤ 1000000
def rnumL (x : RdrX) : LoopS where
  X := RNumI
  f := 1
  m := 1
  tmps z := [(0, .ptr 0 (.lit 0)), (3, .int .u64 (.v z.lo)), (4, .int .i64 (.v z.i))]
  heap z := [(0, .cells (rdrRow z.p z.l z.c x.bad) 90 false)]
  G _ := x.G
  inv z := RNumInv x z
  mea z := 10 - z.i
def conRNum : Con where
  X := RdrX
  n := 1
  args _ := [.ptr 0 (.lit 0)]
  heap x := [(0, .cells (rdrRow x.p x.l x.c x.bad) 90 false)]
  G x := x.G
  pre x := RdrOk x
  Y := NumY
  m := 1
  post x y := RNumPost x y
  res _ y := .int .u64 (.v y.v)
  heap' _ y := [(0, .cells (rdrRow y.p y.l y.c y.bad) 90 false)]
  G' x _ := x.G
noncomputable def body50 : SpecT := body (fun _ => noSpec) (fun _ => famL rnumL) 50
structure BsX where
  p : Option Addr
  l : Nat
  c : Nat
  d : List Int
  G : Nat → Option Obj
def conClone : Con where
  X := BsX
  n := 0
  args x := [.gsl x.p (.v x.l) (.v x.c)]
  heap _ := []
  G x := x.G
  pre x := Bs x.G x.p x.l x.c x.d ∧ x.l ≤ 1000000
  Y := OutY
  m := 1
  post x y := y.xs = x.d ∧ Cells y.vs
  res _ y := obs 0 y.xs y.vs
  heap' _ y := [(0, obh .u8 5 y.xs y.vs)]
  G' x _ := x.G
noncomputable def body75 : SpecT := body (fun _ => noSpec) (fun _ bx => iter bx 0) 75
def conOf : Con where
  X := BsX
  n := 0
  args x := [.gsl x.p (.v x.l) (.v x.c)]
  heap _ := []
  G x := x.G
  pre x := Bs x.G x.p x.l x.c x.d ∧ x.l = 4
  Y := Int
  m := 0
  post x y := y = x.d.getD 0 0 + x.d.getD 1 0 * 256 + x.d.getD 2 0 * 65536 + x.d.getD 3 0 * 16777216
  res _ y := .int .u64 (.v y)
  heap' _ _ := []
  G' x _ := x.G
noncomputable def body49 : SpecT := body (fun _ => noSpec) (fun _ bx => iter bx 5) 49
end Sw
end
section
/- What SwRead's conditions come to, word for word: made by a program. -/
set_option maxRecDepth 100000
set_option linter.unusedVariables false
namespace Sw
open Go Go.Proofs Vx
theorem rnum_vc : (conRNum.Vc body50) = (
∀ (x : Sw.RdrX), Sw.conRNum.pre x →
 ∃ (g : Sw.RdrX), ∃ (x0 : Sw.RNumI), x0.lo = (0 : Int) ∧
 (↑x0.i : Int) = (0 : Int) ∧
 x0.p = x.p ∧
 x0.l = x.l ∧
 x0.c = x.c ∧
 g.bad = x.bad ∧
 Vx.Sub ((Sw.rnumL g).G x0) x.G ∧
 (Sw.rnumL g).inv x0 ∧
 ∀ (x_1 : Sw.RNumI), (Sw.rnumL g).inv x_1 →
 ∀ (d : Nat → Go.Value), (((↑x_1.l : Int) == (0 : Int)) = Bool.true →
 ∃ (y : Sw.NumY), Sw.conRNum.post x y ∧
 y.v = (0 : Int) ∧ y.p = x_1.p ∧ y.l = x_1.l ∧ y.c = x_1.c ∧ y.bad = Bool.true ∧ Vx.Sub (Sw.conRNum.G' x y) g.G ∧ True) ∧
 (((↑x_1.l : Int) == (0 : Int)) = Bool.false →
 (((↑x_1.i : Int) == (10 : Int)) = Bool.true →
 ∃ (y : Sw.NumY), Sw.conRNum.post x y ∧
 y.v = (0 : Int) ∧
 y.p = x_1.p ∧ y.l = x_1.l ∧ y.c = x_1.c ∧ y.bad = Bool.true ∧ Vx.Sub (Sw.conRNum.G' x y) g.G ∧ True) ∧
 (((↑x_1.i : Int) == (10 : Int)) = Bool.false →
 (((↑x_1.i : Int) == (9 : Int)) = Bool.true →
 ((0 : Int) ≤ (0 : Int) ∧ (0 : Int) < (↑x_1.l : Int)) ∧
 ((0 : Int) ≤ (0 : Int) ∧ (0 : Int) < (↑x_1.l : Int) →
 ∃ (b : Nat), ∃ (o : Nat), x_1.p = Option.some { block := b, off := o } ∧
 ∃ (x_2 : Int), Vx.Rd g.G b (o + (0 : Nat)) [Go.Value.int Go.IntKind.u8 x_2] ∧
 (Decidable.decide (x_2 > (1 : Int)) = Bool.true →
 ∃ (y : Sw.NumY), Sw.conRNum.post x y ∧
 y.v = (0 : Int) ∧
 y.p = x_1.p ∧
 y.l = x_1.l ∧ y.c = x_1.c ∧ y.bad = Bool.true ∧ Vx.Sub (Sw.conRNum.G' x y) g.G ∧ True) ∧
 (Decidable.decide (x_2 > (1 : Int)) = Bool.false →
 (Decidable.decide ((↑x_1.i : Int) > (0 : Int)) = Bool.true →
 ((0 : Int) ≤ (0 : Int) ∧ (0 : Int) < (↑x_1.l : Int)) ∧
 ((0 : Int) ≤ (0 : Int) ∧ (0 : Int) < (↑x_1.l : Int) →
 ∃ (b : Nat), ∃ (o : Nat), x_1.p = Option.some { block := b, off := o } ∧
 ∃ (x_3 : Int), Vx.Rd g.G b (o + (0 : Nat)) [Go.Value.int Go.IntKind.u8 x_3] ∧
 ((x_3 == (0 : Int)) = Bool.true →
 ∃ (y : Sw.NumY), Sw.conRNum.post x y ∧
 y.v = (0 : Int) ∧
 y.p = x_1.p ∧
 y.l = x_1.l ∧
 y.c = x_1.c ∧
 y.bad = Bool.true ∧ Vx.Sub (Sw.conRNum.G' x y) g.G ∧ True) ∧
 ((x_3 == (0 : Int)) = Bool.false →
 ((0 : Int) ≤ (0 : Int) ∧ (0 : Int) < (↑x_1.l : Int)) ∧
 ((0 : Int) ≤ (0 : Int) ∧ (0 : Int) < (↑x_1.l : Int) →
 ∃ (b : Nat), ∃ (o : Nat), x_1.p = Option.some { block := b, off := o } ∧
 ∃ (x_4 : Int), Vx.Rd g.G b (o + (0 : Nat)) [Go.Value.int Go.IntKind.u8 x_4] ∧
 x_1.l ≤ x_1.c ∧
 (x_1.l ≤ x_1.c →
 ((0 : Int) ≤ (1 : Int) ∧ (1 : Int) ≤ (↑x_1.l : Int)) ∧
 ((0 : Int) ≤ (1 : Int) ∧ (1 : Int) ≤ (↑x_1.l : Int) →
 ∀ (a' : Option Go.Addr), (a' =
 if x_1.c = (1 : Nat) then x_1.p
 else
 Option.map
 (fun (x : Go.Addr) => x.add (1 : Nat))
 x_1.p) →
 ∀ (r : Int), r =
 Vx.bits Go.BinOp.and Go.IntKind.u8 x_4
 (127 : Int) →
 ∀ (r_1 : Int), r_1 = Go.IntKind.u64.wrap r →
 ∀ (r : Int), r =
 Go.IntKind.i64.wrap
 ((7 : Int) * (↑x_1.i : Int)) →
 Decidable.decide ((0 : Int) ≤ r) =
 Bool.true ∧
 (Decidable.decide ((0 : Int) ≤ r) =
 Bool.true →
 ∀ (r_2 : Int), r_2 =
 Vx.shft Go.BinOp.shl
 Go.IntKind.u64 r_1 r →
 ∀ (r : Int), r =
 Vx.bits Go.BinOp.or
 Go.IntKind.u64 x_1.lo
 r_2 →
 (Decidable.decide
 (x_4 <
 (128 : Int)) =
 Bool.true →
 ∃ (y : Sw.NumY), Sw.conRNum.post x y ∧
 y.v = r ∧
 y.p = a' ∧
 y.l =
 x_1.l -
 (1 :
 Nat) ∧
 y.c =
 x_1.c -
 (1 :
 Nat) ∧
 y.bad =
 g.bad ∧
 Vx.Sub
 (Sw.conRNum.G'
 x y)
 g.G ∧
 True) ∧
 (Decidable.decide
 (x_4 <
 (128 : Int)) =
 Bool.false →
 ∀ (r_3 : Int), r_3 =
 Go.IntKind.i64.wrap
 ((↑x_1.i :
 Int) +
 (1 : Int)) →
 ∃ (x' : Sw.RNumI), (Sw.rnumL g).inv
 x' ∧
 (Sw.rnumL g).mea
 x' <
 (Sw.rnumL
 g).mea
 x_1 ∧
 x'.lo = r ∧
 (↑x'.i :
 Int) =
 r_3 ∧
 x'.p =
 a' ∧
 x'.l =
 x_1.l -
 (1 :
 Nat) ∧
 x'.c =
 x_1.c -
 (1 :
 Nat) ∧
 g.bad =
 g.bad ∧
 Vx.Sub
 ((Sw.rnumL
 g).G
 x')
 g.G ∧
 True)))))))) ∧
 (Decidable.decide ((↑x_1.i : Int) > (0 : Int)) = Bool.false →
 ((0 : Int) ≤ (0 : Int) ∧ (0 : Int) < (↑x_1.l : Int)) ∧
 ((0 : Int) ≤ (0 : Int) ∧ (0 : Int) < (↑x_1.l : Int) →
 ∃ (b : Nat), ∃ (o : Nat), x_1.p = Option.some { block := b, off := o } ∧
 ∃ (x_3 : Int), Vx.Rd g.G b (o + (0 : Nat)) [Go.Value.int Go.IntKind.u8 x_3] ∧
 x_1.l ≤ x_1.c ∧
 (x_1.l ≤ x_1.c →
 ((0 : Int) ≤ (1 : Int) ∧ (1 : Int) ≤ (↑x_1.l : Int)) ∧
 ((0 : Int) ≤ (1 : Int) ∧ (1 : Int) ≤ (↑x_1.l : Int) →
 ∀ (a' : Option Go.Addr), (a' =
 if x_1.c = (1 : Nat) then x_1.p
 else Option.map (fun (x : Go.Addr) => x.add (1 : Nat)) x_1.p) →
 ∀ (r : Int), r = Vx.bits Go.BinOp.and Go.IntKind.u8 x_3 (127 : Int) →
 ∀ (r_1 : Int), r_1 = Go.IntKind.u64.wrap r →
 ∀ (r : Int), r = Go.IntKind.i64.wrap ((7 : Int) * (↑x_1.i : Int)) →
 Decidable.decide ((0 : Int) ≤ r) = Bool.true ∧
 (Decidable.decide ((0 : Int) ≤ r) = Bool.true →
 ∀ (r_2 : Int), r_2 = Vx.shft Go.BinOp.shl Go.IntKind.u64 r_1 r →
 ∀ (r : Int), r =
 Vx.bits Go.BinOp.or Go.IntKind.u64 x_1.lo
 r_2 →
 (Decidable.decide (x_3 < (128 : Int)) =
 Bool.true →
 ∃ (y : Sw.NumY), Sw.conRNum.post x y ∧
 y.v = r ∧
 y.p = a' ∧
 y.l = x_1.l - (1 : Nat) ∧
 y.c = x_1.c - (1 : Nat) ∧
 y.bad = g.bad ∧
 Vx.Sub (Sw.conRNum.G' x y)
 g.G ∧
 True) ∧
 (Decidable.decide (x_3 < (128 : Int)) =
 Bool.false →
 ∀ (r_3 : Int), r_3 =
 Go.IntKind.i64.wrap
 ((↑x_1.i : Int) + (1 : Int)) →
 ∃ (x' : Sw.RNumI), (Sw.rnumL g).inv x' ∧
 (Sw.rnumL g).mea x' <
 (Sw.rnumL g).mea x_1 ∧
 x'.lo = r ∧
 (↑x'.i : Int) = r_3 ∧
 x'.p = a' ∧
 x'.l = x_1.l - (1 : Nat) ∧
 x'.c =
 x_1.c - (1 : Nat) ∧
 g.bad = g.bad ∧
 Vx.Sub
 ((Sw.rnumL g).G
 x')
 g.G ∧
 True))))))))) ∧
 (((↑x_1.i : Int) == (9 : Int)) = Bool.false →
 (Decidable.decide ((↑x_1.i : Int) > (0 : Int)) = Bool.true →
 ((0 : Int) ≤ (0 : Int) ∧ (0 : Int) < (↑x_1.l : Int)) ∧
 ((0 : Int) ≤ (0 : Int) ∧ (0 : Int) < (↑x_1.l : Int) →
 ∃ (b : Nat), ∃ (o : Nat), x_1.p = Option.some { block := b, off := o } ∧
 ∃ (x_2 : Int), Vx.Rd g.G b (o + (0 : Nat)) [Go.Value.int Go.IntKind.u8 x_2] ∧
 ((x_2 == (0 : Int)) = Bool.true →
 ∃ (y : Sw.NumY), Sw.conRNum.post x y ∧
 y.v = (0 : Int) ∧
 y.p = x_1.p ∧
 y.l = x_1.l ∧ y.c = x_1.c ∧ y.bad = Bool.true ∧ Vx.Sub (Sw.conRNum.G' x y) g.G ∧ True) ∧
 ((x_2 == (0 : Int)) = Bool.false →
 ((0 : Int) ≤ (0 : Int) ∧ (0 : Int) < (↑x_1.l : Int)) ∧
 ((0 : Int) ≤ (0 : Int) ∧ (0 : Int) < (↑x_1.l : Int) →
 ∃ (b : Nat), ∃ (o : Nat), x_1.p = Option.some { block := b, off := o } ∧
 ∃ (x_3 : Int), Vx.Rd g.G b (o + (0 : Nat)) [Go.Value.int Go.IntKind.u8 x_3] ∧
 x_1.l ≤ x_1.c ∧
 (x_1.l ≤ x_1.c →
 ((0 : Int) ≤ (1 : Int) ∧ (1 : Int) ≤ (↑x_1.l : Int)) ∧
 ((0 : Int) ≤ (1 : Int) ∧ (1 : Int) ≤ (↑x_1.l : Int) →
 ∀ (a' : Option Go.Addr), (a' =
 if x_1.c = (1 : Nat) then x_1.p
 else Option.map (fun (x : Go.Addr) => x.add (1 : Nat)) x_1.p) →
 ∀ (r : Int), r = Vx.bits Go.BinOp.and Go.IntKind.u8 x_3 (127 : Int) →
 ∀ (r_1 : Int), r_1 = Go.IntKind.u64.wrap r →
 ∀ (r : Int), r = Go.IntKind.i64.wrap ((7 : Int) * (↑x_1.i : Int)) →
 Decidable.decide ((0 : Int) ≤ r) = Bool.true ∧
 (Decidable.decide ((0 : Int) ≤ r) = Bool.true →
 ∀ (r_2 : Int), r_2 = Vx.shft Go.BinOp.shl Go.IntKind.u64 r_1 r →
 ∀ (r : Int), r =
 Vx.bits Go.BinOp.or Go.IntKind.u64 x_1.lo
 r_2 →
 (Decidable.decide (x_3 < (128 : Int)) =
 Bool.true →
 ∃ (y : Sw.NumY), Sw.conRNum.post x y ∧
 y.v = r ∧
 y.p = a' ∧
 y.l = x_1.l - (1 : Nat) ∧
 y.c = x_1.c - (1 : Nat) ∧
 y.bad = g.bad ∧
 Vx.Sub (Sw.conRNum.G' x y)
 g.G ∧
 True) ∧
 (Decidable.decide (x_3 < (128 : Int)) =
 Bool.false →
 ∀ (r_3 : Int), r_3 =
 Go.IntKind.i64.wrap
 ((↑x_1.i : Int) + (1 : Int)) →
 ∃ (x' : Sw.RNumI), (Sw.rnumL g).inv x' ∧
 (Sw.rnumL g).mea x' <
 (Sw.rnumL g).mea x_1 ∧
 x'.lo = r ∧
 (↑x'.i : Int) = r_3 ∧
 x'.p = a' ∧
 x'.l = x_1.l - (1 : Nat) ∧
 x'.c =
 x_1.c - (1 : Nat) ∧
 g.bad = g.bad ∧
 Vx.Sub
 ((Sw.rnumL g).G
 x')
 g.G ∧
 True)))))))) ∧
 (Decidable.decide ((↑x_1.i : Int) > (0 : Int)) = Bool.false →
 ((0 : Int) ≤ (0 : Int) ∧ (0 : Int) < (↑x_1.l : Int)) ∧
 ((0 : Int) ≤ (0 : Int) ∧ (0 : Int) < (↑x_1.l : Int) →
 ∃ (b : Nat), ∃ (o : Nat), x_1.p = Option.some { block := b, off := o } ∧
 ∃ (x_2 : Int), Vx.Rd g.G b (o + (0 : Nat)) [Go.Value.int Go.IntKind.u8 x_2] ∧
 x_1.l ≤ x_1.c ∧
 (x_1.l ≤ x_1.c →
 ((0 : Int) ≤ (1 : Int) ∧ (1 : Int) ≤ (↑x_1.l : Int)) ∧
 ((0 : Int) ≤ (1 : Int) ∧ (1 : Int) ≤ (↑x_1.l : Int) →
 ∀ (a' : Option Go.Addr), (a' =
 if x_1.c = (1 : Nat) then x_1.p
 else Option.map (fun (x : Go.Addr) => x.add (1 : Nat)) x_1.p) →
 ∀ (r : Int), r = Vx.bits Go.BinOp.and Go.IntKind.u8 x_2 (127 : Int) →
 ∀ (r_1 : Int), r_1 = Go.IntKind.u64.wrap r →
 ∀ (r : Int), r = Go.IntKind.i64.wrap ((7 : Int) * (↑x_1.i : Int)) →
 Decidable.decide ((0 : Int) ≤ r) = Bool.true ∧
 (Decidable.decide ((0 : Int) ≤ r) = Bool.true →
 ∀ (r_2 : Int), r_2 = Vx.shft Go.BinOp.shl Go.IntKind.u64 r_1 r →
 ∀ (r : Int), r = Vx.bits Go.BinOp.or Go.IntKind.u64 x_1.lo r_2 →
 (Decidable.decide (x_2 < (128 : Int)) = Bool.true →
 ∃ (y : Sw.NumY), Sw.conRNum.post x y ∧
 y.v = r ∧
 y.p = a' ∧
 y.l = x_1.l - (1 : Nat) ∧
 y.c = x_1.c - (1 : Nat) ∧
 y.bad = g.bad ∧
 Vx.Sub (Sw.conRNum.G' x y) g.G ∧ True) ∧
 (Decidable.decide (x_2 < (128 : Int)) = Bool.false →
 ∀ (r_3 : Int), r_3 = Go.IntKind.i64.wrap ((↑x_1.i : Int) + (1 : Int)) →
 ∃ (x' : Sw.RNumI), (Sw.rnumL g).inv x' ∧
 (Sw.rnumL g).mea x' < (Sw.rnumL g).mea x_1 ∧
 x'.lo = r ∧
 (↑x'.i : Int) = r_3 ∧
 x'.p = a' ∧
 x'.l = x_1.l - (1 : Nat) ∧
 x'.c = x_1.c - (1 : Nat) ∧
 g.bad = g.bad ∧
 Vx.Sub ((Sw.rnumL g).G x') g.G ∧
 True)))))))))) := by kernel_rfl
theorem clone_vc : (conClone.Vc body75) = (
∀ (x : Sw.BsX), Sw.conClone.pre x →
 ∃ (ys : List Int), ys.length = x.l ∧
 Vx.RdS x.G x.p x.l (List.map (Go.Value.int Go.IntKind.u8) ys) ∧
 x.l ≤ (140737488355328 : Nat) ∧
 (x.l ≤ (140737488355328 : Nat) →
 x.l ≤ (9223372036854775807 : Nat) ∧
 (x.l ≤ (9223372036854775807 : Nat) →
 ∀ (c : Nat) (vs : List Go.Value), x.l ≤ c →
 vs.length = (c - x.l) * (1 : Nat) →
 (∀ (v : Go.Value), v ∈ vs → v.oneCell' = Bool.true) →
 ∃ (y : Sw.OutY), Sw.conClone.post x y ∧
 y.xs.length = x.l ∧
 y.xs.length + y.vs.length = c ∧
 y.xs = ys ∧ y.xs.length = x.l ∧ y.vs = vs ∧ y.vs.length = (c - x.l) * (1 : Nat) ∧ Vx.Sub (Sw.conClone.G' x y) x.G ∧ True))) := by kernel_rfl
theorem of_vc : (conOf.Vc body49) = (
∀ (x : Sw.BsX), Sw.conOf.pre x →
 (Decidable.decide ((0 : Int) < (↑x.l : Int)) = Bool.true →
 ((0 : Int) ≤ (0 : Int) ∧ (0 : Int) < (↑x.l : Int)) ∧
 ((0 : Int) ≤ (0 : Int) ∧ (0 : Int) < (↑x.l : Int) →
 ∃ (b : Nat), ∃ (o : Nat), x.p = Option.some { block := b, off := o } ∧
 ∃ (x_1 : Int), Vx.Rd x.G b (o + (0 : Nat)) [Go.Value.int Go.IntKind.u8 x_1] ∧
 ∀ (r : Int), r = Go.IntKind.u64.wrap x_1 →
 ∀ (r_1 : Int), r_1 = Vx.shft Go.BinOp.shl Go.IntKind.u64 r (0 : Int) →
 ∀ (r : Int), r = Vx.bits Go.BinOp.or Go.IntKind.u64 (0 : Int) r_1 →
 (Decidable.decide ((1 : Int) < (↑x.l : Int)) = Bool.true →
 ((0 : Int) ≤ (1 : Int) ∧ (1 : Int) < (↑x.l : Int)) ∧
 ((0 : Int) ≤ (1 : Int) ∧ (1 : Int) < (↑x.l : Int) →
 ∃ (b : Nat), ∃ (o : Nat), x.p = Option.some { block := b, off := o } ∧
 ∃ (x_2 : Int), Vx.Rd x.G b (o + (1 : Nat)) [Go.Value.int Go.IntKind.u8 x_2] ∧
 ∀ (r_2 : Int), r_2 = Go.IntKind.u64.wrap x_2 →
 ∀ (r_3 : Int), r_3 = Vx.shft Go.BinOp.shl Go.IntKind.u64 r_2 (8 : Int) →
 ∀ (r_4 : Int), r_4 = Vx.bits Go.BinOp.or Go.IntKind.u64 r r_3 →
 (Decidable.decide ((2 : Int) < (↑x.l : Int)) = Bool.true →
 ((0 : Int) ≤ (2 : Int) ∧ (2 : Int) < (↑x.l : Int)) ∧
 ((0 : Int) ≤ (2 : Int) ∧ (2 : Int) < (↑x.l : Int) →
 ∃ (b : Nat), ∃ (o : Nat), x.p = Option.some { block := b, off := o } ∧
 ∃ (x_3 : Int), Vx.Rd x.G b (o + (2 : Nat)) [Go.Value.int Go.IntKind.u8 x_3] ∧
 ∀ (r : Int), r = Go.IntKind.u64.wrap x_3 →
 ∀ (r_5 : Int), r_5 = Vx.shft Go.BinOp.shl Go.IntKind.u64 r (16 : Int) →
 ∀ (r : Int), r = Vx.bits Go.BinOp.or Go.IntKind.u64 r_4 r_5 →
 (Decidable.decide ((3 : Int) < (↑x.l : Int)) = Bool.true →
 ((0 : Int) ≤ (3 : Int) ∧ (3 : Int) < (↑x.l : Int)) ∧
 ((0 : Int) ≤ (3 : Int) ∧ (3 : Int) < (↑x.l : Int) →
 ∃ (b : Nat), ∃ (o : Nat), x.p = Option.some { block := b, off := o } ∧
 ∃ (x_4 : Int), Vx.Rd x.G b (o + (3 : Nat))
 [Go.Value.int Go.IntKind.u8 x_4] ∧
 ∀ (r_6 : Int), r_6 = Go.IntKind.u64.wrap x_4 →
 ∀ (r_7 : Int), r_7 =
 Vx.shft Go.BinOp.shl Go.IntKind.u64
 r_6 (24 : Int) →
 ∀ (r_8 : Int), r_8 =
 Vx.bits Go.BinOp.or Go.IntKind.u64
 r r_7 →
 (Decidable.decide
 ((4 : Int) < (↑x.l : Int)) =
 Bool.true →
 ((0 : Int) ≤ (4 : Int) ∧
 (4 : Int) < (↑x.l : Int)) ∧
 ((0 : Int) ≤ (4 : Int) ∧
 (4 : Int) < (↑x.l : Int) →
 ∃ (b : Nat), ∃ (o : Nat), x.p =
 Option.some
 { block := b, off := o } ∧
 ∃ (x_5 : Int), Vx.Rd x.G b
 (o + (4 : Nat))
 [Go.Value.int
 Go.IntKind.u8
 x_5] ∧
 ∀ (r : Int), r =
 Go.IntKind.u64.wrap
 x_5 →
 ∀ (r_9 : Int), r_9 =
 Vx.shft
 Go.BinOp.shl
 Go.IntKind.u64
 r
 (32 :
 Int) →
 ∀
 (r :
 Int), r =
 Vx.bits
 Go.BinOp.or
 Go.IntKind.u64
 r_8
 r_9 →
 False)) ∧
 (Decidable.decide
 ((4 : Int) < (↑x.l : Int)) =
 Bool.false →
 ∃ (y : Int), Sw.conOf.post x y ∧
 y = r_8 ∧
 Vx.Sub (Sw.conOf.G' x y)
 x.G ∧
 True))) ∧
 (Decidable.decide ((3 : Int) < (↑x.l : Int)) = Bool.false →
 ∃ (y : Int), Sw.conOf.post x y ∧
 y = r ∧ Vx.Sub (Sw.conOf.G' x y) x.G ∧ True))) ∧
 (Decidable.decide ((2 : Int) < (↑x.l : Int)) = Bool.false →
 ∃ (y : Int), Sw.conOf.post x y ∧ y = r_4 ∧ Vx.Sub (Sw.conOf.G' x y) x.G ∧ True))) ∧
 (Decidable.decide ((1 : Int) < (↑x.l : Int)) = Bool.false →
 ∃ (y : Int), Sw.conOf.post x y ∧ y = r ∧ Vx.Sub (Sw.conOf.G' x y) x.G ∧ True))) ∧
 (Decidable.decide ((0 : Int) < (↑x.l : Int)) = Bool.false → ∃ (y : Int), Sw.conOf.post x y ∧ y = (0 : Int) ∧ Vx.Sub (Sw.conOf.G' x y) x.G ∧ True)) := by kernel_rfl
end Sw
end
section
/- save.reader.number, save.clone, word.Of do what is said. -/
namespace Sw
set_option maxRecDepth 100000
open Go Go.Proofs Vx

theorem Bs.head {G : Nat → Option Obj} {p : Option Addr} {l c : Nat} {d : List Int} (h : Bs G p l c d) (hl : 0 < l) :
    ∃ b r, d = b :: r ∧ IsByte b ∧ ∃ bk o, p = some ⟨bk, o, none⟩ ∧ Rd G bk (o + 0) [.int .u8 b] := by
  cases d with
  | nil => have := h.len; simp at this; omega
  | cons b r =>
    refine ⟨b, r, rfl, h.byte b List.mem_cons_self, ?_⟩
    rcases h.at_ with ⟨h0, _⟩ | ⟨bk, o, h1, h2⟩
    · omega
    · exact ⟨bk, o, h1, Rd.part (pre := []) (mid := [.int .u8 b]) (post := r.map (.int .u8)) h2 rfl⟩
/-- The byte at a place. -/
theorem Bs.nth {G : Nat → Option Obj} {p : Option Addr} {l c : Nat} {d : List Int} (h : Bs G p l c d) {i : Nat} (hi : i < l) :
    ∃ bk o, p = some ⟨bk, o, none⟩ ∧ Rd G bk (o + i) [.int .u8 (d.getD i 0)] ∧ IsByte (d.getD i 0) := by
  have hid : i < d.length := by rw [h.len]; exact hi
  rcases h.at_ with ⟨h0, _⟩ | ⟨bk, o, h1, h2⟩
  · omega
  · have e : d = d.take i ++ d.getD i 0 :: d.drop (i + 1) := by
      rw [getD_eq _ _ _ hid, List.getElem_cons_drop, List.take_append_drop]
    have := Rd.part (pre := (d.take i).map (.int .u8)) (mid := [.int .u8 (d.getD i 0)]) (post := (d.drop (i + 1)).map (.int .u8)) h2 (by
      conv => lhs; rw [e]
      simp)
    refine ⟨bk, o, h1, ?_, h.byte _ (by rw [getD_eq _ _ _ hid]; exact List.getElem_mem _)⟩
    have hl : ((d.take i).map (Value.int .u8)).length = i := by simp; omega
    rwa [hl] at this
theorem Bs.drop {G : Nat → Option Obj} {p a : Option Addr} {l c k : Nat} {d : List Int} (h : Bs G p l c d) (hk : k ≤ l) (ha : a = if c = k then p else p.map fun x => x.add k) : Bs G a (l - k) (c - k) (d.drop k) := by
  have hcap := h.cap
  refine ⟨by simp [h.len], by omega, ?_, fun b hb => h.byte b (List.mem_of_mem_drop hb)⟩
  rcases h.at_ with ⟨h0, h1⟩ | ⟨bk, o, h1, h2⟩
  · have : d = [] := by simpa using h1
    exact .inl ⟨by omega, by simp [this]⟩
  · by_cases e : l - k = 0
    · refine .inl ⟨e, ?_⟩
      have : d.drop k = [] := List.drop_eq_nil_of_le (by rw [h.len]; omega)
      simp [this]
    · refine .inr ⟨bk, o + k, ?_, ?_⟩
      · rw [ha, if_neg (by omega), h1]; simp [addr_add]
      · have := Rd.part (pre := (d.take k).map (.int .u8)) (mid := (d.drop k).map (.int .u8)) (post := []) h2 (by simp [← List.map_append])
        have hl : ((d.take k).map (Value.int .u8)).length = k := by have := h.len; simp; omega
        rwa [hl] at this
theorem Bs.take {G : Nat → Option Obj} {p : Option Addr} {l c k : Nat} {d : List Int} (h : Bs G p l c d) (hk : k ≤ l) : Bs G p k c (d.take k) := by
  have hcap := h.cap
  refine ⟨by have := h.len; simp; omega, by omega, ?_, fun b hb => h.byte b (List.mem_of_mem_take hb)⟩
  rcases h.at_ with ⟨h0, h1⟩ | ⟨bk, o, h1, h2⟩
  · have : d = [] := by simpa using h1
    exact .inl ⟨by omega, by simp [this]⟩
  · refine .inr ⟨bk, o, h1, ?_⟩
    have := Rd.part (pre := []) (mid := (d.take k).map (.int .u8)) (post := (d.drop k).map (.int .u8)) h2 (by simp [← List.map_append])
    simpa using this
theorem Bs.mono {G G' : Nat → Option Obj} {p : Option Addr} {l c : Nat} {d : List Int} (h : Bs G p l c d) (hG : Sub G G') : Bs G' p l c d := by
  refine ⟨h.len, h.cap, ?_, h.byte⟩
  rcases h.at_ with h | ⟨b, o, h1, c', e, fz, h2, h3⟩
  · exact .inl h
  · exact .inr ⟨b, o, h1, c', e, fz, hG _ _ h2, h3⟩
/-- A cell is what it is. -/
theorem Rd.one {G : Nat → Option Obj} {b o : Nat} {x y : Int} {k : IntKind} (h : Rd G b o [.int k x]) (h' : Rd G b o [.int k y]) : x = y := by
  obtain ⟨c, e, fz, h1, h2⟩ := h
  obtain ⟨c', e', fz', h1', h2'⟩ := h'
  rw [h1] at h1'
  cases h1'
  have a1 := h2 0 _ rfl
  have a2 := h2' 0 _ rfl
  rw [a1] at a2
  cases a2
  rfl

theorem and127 {b : Int} (h : IsByte b) : Vx.bits .and .u8 b 127 = b % 128 := by
  obtain ⟨h1, h2⟩ := h
  obtain ⟨n, rfl⟩ := Int.eq_ofNat_of_zero_le h1
  rw [bits_eq, show (127 : Int) = ((127 : Nat) : Int) from rfl, u8_and_nat _ _ (by omega) (by decide)]
  have : n &&& 127 = n % 128 := Nat.and_two_pow_sub_one_eq_mod n 7
  rw [this]; omega
theorem put7 {lo b : Int} {i : Nat} (hi : i ≤ 9) (h0 : 0 ≤ lo) (hlo : lo.toNat < 128 ^ i) (hb : IsByte b) (h9 : i = 9 → b ≤ 1) :
    Vx.bits .or .u64 lo (shft .shl .u64 (IntKind.u64.wrap (Vx.bits .and .u8 b 127)) (IntKind.i64.wrap (7 * (i : Int)))) = ((lo.toNat + (b.toNat % 128) * 128 ^ i : Nat) : Int) := by
  rw [and127 hb, w64 _ (by omega) (by omega)]
  obtain ⟨hb0, hb1⟩ := hb
  obtain ⟨n, rfl⟩ := Int.eq_ofNat_of_zero_le hb0
  obtain ⟨m, rfl⟩ := Int.eq_ofNat_of_zero_le h0
  simp only [Int.toNat_natCast] at *
  have e1 : IntKind.u64.wrap ((n : Int) % 128) = ((n % 128 : Nat) : Int) := by rw [wu64]; omega
  rw [e1]
  have hp : (128 : Nat) ^ i = 2 ^ (7 * i) := by rw [Nat.pow_mul]
  have hlt : n % 128 * 128 ^ i < 18446744073709551616 := by
    by_cases e : i = 9
    · subst e
      have := h9 rfl
      have : n % 128 * 128 ^ 9 ≤ 1 * 128 ^ 9 := Nat.mul_le_mul_right _ (by omega)
      omega
    · have h1 : 128 ^ i ≤ 128 ^ 8 := Nat.pow_le_pow_right (by omega) (by omega)
      have : n % 128 * 128 ^ i ≤ 127 * 128 ^ 8 := Nat.mul_le_mul (by omega) h1
      omega
  have e2 : shft .shl .u64 ((n % 128 : Nat) : Int) (7 * (i : Int)) = ((n % 128 * 128 ^ i : Nat) : Int) := by
    show IntKind.u64.wrap (((n % 128 : Nat) : Int) * 2 ^ (min (7 * (i : Int)).toNat 64)) = _
    have : min (7 * (i : Int)).toNat 64 = 7 * i := by omega
    rw [this, hp]
    have e3 : ((n % 128 : Nat) : Int) * 2 ^ (7 * i) = ((n % 128 * 2 ^ (7 * i) : Nat) : Int) := by simp
    rw [e3, wu64, ← hp]
    omega
  rw [e2]
  have hm : m < 18446744073709551616 := by
    have h1 : 128 ^ i ≤ 128 ^ 9 := Nat.pow_le_pow_right (by omega) (by omega)
    omega
  rw [bits_eq, u64_or_nat _ _ hm hlt]
  congr 1
  rw [Nat.or_comm, hp, Nat.mul_comm, ← Nat.two_pow_add_eq_or_of_lt (by rw [← hp]; exact hlo)]
  omega

theorem rnum_ok : conRNum.Vc body50 := by
  rw [rnum_vc]
  intro x hx
  obtain ⟨hbs, hl⟩ := (hx : RdrOk x)
  refine ⟨x, ⟨0, 0, x.p, x.l, x.c, x.d⟩, rfl, rfl, rfl, rfl, rfl, rfl, Sub.refl _, ⟨Half.start x.d, Int.le_refl _, hbs, Nat.le_refl _, hl⟩, ?_⟩
  intro z hz d
  obtain ⟨hh, hlo, hb, hzl, _⟩ := (hz : RNumInv x z)
  have hcap := hb.cap
  have bad : (z.d = [] ∨ (z.i = 9 ∧ ∃ b r, z.d = b :: r ∧ 1 < b) ∨ (0 < z.i ∧ ∃ r, z.d = 0 :: r)) → ∃ (y : Sw.NumY), Sw.conRNum.post x y ∧ y.v = (0 : Int) ∧ y.p = z.p ∧ y.l = z.l ∧ y.c = z.c ∧ y.bad = Bool.true ∧ Vx.Sub (Sw.conRNum.G' x y) x.G ∧ True := by
    intro h
    exact ⟨⟨0, z.p, z.l, z.c, z.d, true⟩, ⟨hb, hzl, ⟨Int.le_refl _, by show (0 : Int) < _; decide⟩, .inl ⟨rfl, .inr (hh.no h)⟩⟩, rfl, rfl, rfl, rfl, rfl, Sub.refl _, trivial⟩
  have hi9 := hh.i9
  -- a piece that is taken
  have tail : (0 < z.l) → (z.i = 9 → ∀ b r, z.d = b :: r → b ≤ 1) → (0 < z.i → ∀ b r, z.d = b :: r → b ≠ 0) →
      ((0 : Int) ≤ (0 : Int) ∧ (0 : Int) < (↑z.l : Int)) ∧
      ((0 : Int) ≤ (0 : Int) ∧ (0 : Int) < (↑z.l : Int) → ∃ (b : Nat), ∃ (o : Nat), z.p = Option.some { block := b, off := o } ∧ ∃ (x_3 : Int), Vx.Rd x.G b (o + (0 : Nat)) [Go.Value.int Go.IntKind.u8 x_3] ∧
      z.l ≤ z.c ∧ (z.l ≤ z.c → ((0 : Int) ≤ (1 : Int) ∧ (1 : Int) ≤ (↑z.l : Int)) ∧ ((0 : Int) ≤ (1 : Int) ∧ (1 : Int) ≤ (↑z.l : Int) →
      ∀ (a' : Option Go.Addr), (a' = if z.c = (1 : Nat) then z.p else Option.map (fun (x : Go.Addr) => x.add (1 : Nat)) z.p) →
      ∀ (r : Int), r = Vx.bits Go.BinOp.and Go.IntKind.u8 x_3 (127 : Int) → ∀ (r_1 : Int), r_1 = Go.IntKind.u64.wrap r → ∀ (r : Int), r = Go.IntKind.i64.wrap ((7 : Int) * (↑z.i : Int)) →
      Decidable.decide ((0 : Int) ≤ r) = Bool.true ∧ (Decidable.decide ((0 : Int) ≤ r) = Bool.true → ∀ (r_2 : Int), r_2 = Vx.shft Go.BinOp.shl Go.IntKind.u64 r_1 r → ∀ (r : Int), r = Vx.bits Go.BinOp.or Go.IntKind.u64 z.lo r_2 →
      (Decidable.decide (x_3 < (128 : Int)) = Bool.true → ∃ (y : Sw.NumY), Sw.conRNum.post x y ∧ y.v = r ∧ y.p = a' ∧ y.l = z.l - (1 : Nat) ∧ y.c = z.c - (1 : Nat) ∧ y.bad = x.bad ∧ Vx.Sub (Sw.conRNum.G' x y) x.G ∧ True) ∧
      (Decidable.decide (x_3 < (128 : Int)) = Bool.false → ∀ (r_3 : Int), r_3 = Go.IntKind.i64.wrap ((↑z.i : Int) + (1 : Int)) →
      ∃ (x' : Sw.RNumI), (Sw.rnumL x).inv x' ∧ (Sw.rnumL x).mea x' < (Sw.rnumL x).mea z ∧ x'.lo = r ∧ (↑x'.i : Int) = r_3 ∧ x'.p = a' ∧ x'.l = z.l - (1 : Nat) ∧ x'.c = z.c - (1 : Nat) ∧ x.bad = x.bad ∧ Vx.Sub ((Sw.rnumL x).G x') x.G ∧ True))))) := by
    intro hzl0 h9 h0
    obtain ⟨b, r, hd, hbyte, bk, o, e1, e2⟩ := hb.head hzl0
    have h9 : z.i = 9 → b ≤ 1 := fun h => h9 h b r hd
    have h0 : 0 < z.i → b ≠ 0 := fun h => h0 h b r hd
    have hlow := hh.low
    refine ⟨by omega, fun _ => ⟨bk, o, e1, b, e2, by omega, fun _ => ⟨by omega, fun _ a' ha r1 hr1 r2 hr2 r3 hr3 => ?_⟩⟩⟩
    have e3 : IntKind.i64.wrap (7 * (z.i : Int)) = 7 * (z.i : Int) := w64 _ (by omega) (by omega)
    refine ⟨decide_eq_true (by rw [hr3, e3]; omega), fun _ r4 hr4 r5 hr5 => ?_⟩
    have hv : r5 = ((z.lo.toNat + (b.toNat % 128) * 128 ^ z.i : Nat) : Int) := by
      rw [hr5, hr4, hr2, hr1, hr3]
      exact put7 hi9 hlo hlow hbyte h9
    have hbs' := hb.drop (k := 1) (by omega) ha
    rw [hd, List.drop_one, List.tail_cons] at hbs'
    rw [hd] at hh
    refine ⟨fun hlt => ?_, fun hge r6 hr6 => ?_⟩
    · have hlt := of_decide_eq_true hlt
      obtain ⟨g1, g2⟩ := hh.last hbyte.1 hlt h0 h9
      have hm : b.toNat % 128 = b.toNat := Nat.mod_eq_of_lt (by omega)
      rw [hm] at hv
      refine ⟨⟨r5, a', z.l - 1, z.c - 1, r, x.bad⟩, ⟨hbs', ?_, ⟨?_, ?_⟩, .inr ⟨rfl, ?_⟩⟩, rfl, rfl, rfl, rfl, rfl, Sub.refl _, trivial⟩
      · show z.l - 1 ≤ x.l; omega
      · show 0 ≤ r5; omega
      · show r5 < _; omega
      · show x.d = numB 10 r5.toNat ++ r
        rw [hv, Int.toNat_natCast]; exact g2
    · have hge := of_decide_eq_false hge
      have hn9 : z.i ≠ 9 := fun h => by have := h9 h; omega
      have hb1 := hbyte.2
      have g := hh.next (by omega) hbyte.2 hn9
      have hm : b.toNat % 128 = b.toNat - 128 := by
        have : b.toNat < 256 := by omega
        omega
      rw [hm] at hv
      refine ⟨⟨r5, z.i + 1, a', z.l - 1, z.c - 1, r⟩, ⟨?_, ?_, hbs', ?_, hl⟩, ?_, rfl, ?_, rfl, rfl, rfl, rfl, Sub.refl _, trivial⟩
      · show Half x.d (z.i + 1) r5.toNat r
        rw [hv, Int.toNat_natCast]; exact g
      · show 0 ≤ r5; omega
      · show z.l - 1 ≤ x.l; omega
      · show 10 - (z.i + 1) < 10 - z.i; omega
      · rw [hr6, w64 _ (by omega) (by omega)]; rfl
  have rd : ∀ (b : Nat) (o : Nat) (y : Int), z.p = some ⟨b, o, none⟩ → Rd x.G b (o + 0) [.int .u8 y] → 0 < z.l → ∃ r, z.d = y :: r := by
    intro b o y e1 e2 h0
    obtain ⟨b', r, hd, _, bk, o', e1', e2'⟩ := hb.head h0
    rw [e1] at e1'
    cases e1'
    rw [Rd.one e2 e2']
    exact ⟨r, hd⟩
  refine ⟨fun he => ?_, fun hne => ⟨fun he => ?_, fun h10 => ⟨fun he9 => ?_, fun hn9 => ?_⟩⟩⟩
  · have : z.d = [] := List.eq_nil_of_length_eq_zero (by rw [hb.len]; simpa using he)
    exact bad (.inl this)
  · have : (z.i : Int) = 10 := by simpa using he
    omega
  · have hne : ¬ (z.l : Int) = 0 := by simpa using hne
    have he9 : (z.i : Int) = 9 := by simpa using he9
    obtain ⟨b, r, hd, hbyte, bk, o, e1, e2⟩ := hb.head (by omega)
    refine ⟨by omega, fun _ => ⟨bk, o, e1, b, e2, fun hgt => ?_, fun hle => ⟨fun hpos => ?_, fun hno => ?_⟩⟩⟩
    · exact bad (.inr (.inl ⟨by omega, b, r, hd, by simpa using hgt⟩))
    · have hle := of_decide_eq_false hle
      refine ⟨by omega, fun _ => ⟨bk, o, e1, b, e2, fun h0 => ?_, fun hn0 => ?_⟩⟩
      · have : b = 0 := by simpa using h0
        exact bad (.inr (.inr ⟨by omega, r, by rw [hd, this]⟩))
      · have : ¬ b = 0 := by simpa using hn0
        exact tail (by omega) (fun _ b' r' h' => by rw [hd] at h'; cases h'; omega) (fun _ b' r' h' => by rw [hd] at h'; cases h'; exact this)
    · have hno := of_decide_eq_false hno
      omega
  · have hne : ¬ (z.l : Int) = 0 := by simpa using hne
    have hn9 : ¬ (z.i : Int) = 9 := by simpa using hn9
    obtain ⟨b, r, hd, hbyte, bk, o, e1, e2⟩ := hb.head (by omega)
    refine ⟨fun hpos => ⟨by omega, fun _ => ⟨bk, o, e1, b, e2, fun h0 => ?_, fun hn0 => ?_⟩⟩, fun hno => ?_⟩
    · have hpos := of_decide_eq_true hpos
      have : b = 0 := by simpa using h0
      exact bad (.inr (.inr ⟨by omega, r, by rw [hd, this]⟩))
    · have : ¬ b = 0 := by simpa using hn0
      exact tail (by omega) (fun h => by omega) (fun _ b' r' h' => by rw [hd] at h'; cases h'; exact this)
    · have hno := of_decide_eq_false hno
      exact tail (by omega) (fun h => by omega) (fun h => by omega)
theorem spec50 : SpecOk Tryz.prog 50 conRNum.spec :=
  Con.sound (body_ok (fun f => noSpec_ok _ f) (fun _ => (famL_ok rnumL _).ok) (fun vs w => Tryz.call50 vs w)) rnum_ok
theorem clone_ok : conClone.Vc body75 := by
  rw [clone_vc]
  intro x hx
  obtain ⟨hb, hl⟩ := (hx : Bs x.G x.p x.l x.c x.d ∧ x.l ≤ 1000000)
  have hlen := hb.len
  refine ⟨x.d, hb.len, hb.at_, by omega, fun _ => ⟨by omega, fun _ c vs hc hv h1 => ⟨⟨x.d, vs⟩, ⟨rfl, h1⟩, hb.len, ?_, rfl, hb.len, rfl, hv, Sub.refl _, trivial⟩⟩⟩
  show x.d.length + vs.length = c
  omega
/-- The list that clone leaves, as one that stays. -/
def frzClone : Frz conClone where
  id := 0
  o _ y := obh .u8 5 y.xs y.vs
  rest _ _ := []
  res _ y a := .gsl (some ⟨a, 0, none⟩) (.v y.xs.length) (.v (y.xs.length + y.vs.length))
  obj _ y := .cells (y.xs.map (Value.int .u8) ++ y.vs).toArray 5 (0, 0)
  lo := Nat.le_refl _
  hi := Nat.lt_succ_self _
  heap _ _ := rfl
  other _ _ e he := by cases he
  den _ y ρ β := by simp [obh, SObj.ren, SV.ren, SObj.den, SV.vals, fzOf, IL.den]
  val _ y ρ β := by simp [conClone, obs, SV.ren, SV.val, SV.vals, NE.den, Off.den]
  one _ _ _ := rfl
  wf _ _ _ _ _ := trivial
theorem spec75 : SpecOk Tryz.prog 75 (conClone.frz frzClone).spec :=
  Con.soundF frzClone (body_ok (fun f => noSpec_ok _ f) (iter_ways 0) (fun vs w => Tryz.call75 vs w)) clone_ok
theorem bs_frz (G : Nat → Option Obj) (a : Nat) (xs : List Int) (vs : List Value) (hx : ∀ b ∈ xs, IsByte b) :
    Bs (addG a (.cells (xs.map (Value.int .u8) ++ vs).toArray 5 (0, 0)) G) (some ⟨a, 0, none⟩) xs.length (xs.length + vs.length) xs := by
  refine ⟨rfl, by omega, .inr ⟨a, 0, rfl, _, _, _, addG_self _ _ _, fun j v hj => ?_⟩, hx⟩
  have hlt : j < (xs.map (Value.int .u8)).length := (List.getElem?_eq_some_iff.1 hj).1
  simp only [List.getElem?_toArray, Nat.zero_add]
  rw [List.getElem?_append_left hlt]
  exact hj
theorem shl_u64 (n : Int) (k : Nat) (hk : k ≤ 64) : shft .shl .u64 n (k : Int) = n * 2 ^ k % 18446744073709551616 := by
  show IntKind.u64.wrap (n * 2 ^ (min (k : Int).toNat 64)) = _
  have : min (k : Int).toNat 64 = k := by omega
  rw [this, wu64]
/-- A byte over a smaller number. -/
theorem orByte {w b : Int} (k : Nat) (hw0 : 0 ≤ w) (hw : w < 2 ^ k) (hb : IsByte b) (hk : k ≤ 56) : Vx.bits .or .u64 w (shft .shl .u64 (IntKind.u64.wrap b) (k : Int)) = w + b * 2 ^ k := by
  obtain ⟨hb0, hb1⟩ := hb
  obtain ⟨n, rfl⟩ := Int.eq_ofNat_of_zero_le hb0
  obtain ⟨m, rfl⟩ := Int.eq_ofNat_of_zero_le hw0
  have e1 : IntKind.u64.wrap (n : Int) = (n : Int) := by rw [wu64]; omega
  have h1 : (2 : Nat) ^ k ≤ 2 ^ 56 := Nat.pow_le_pow_right (by omega) hk
  have h2 : n * 2 ^ k ≤ 255 * 2 ^ 56 := Nat.mul_le_mul (by omega) h1
  have hm : m < 2 ^ k := by exact_mod_cast hw
  have e2 : (n : Int) * 2 ^ k = ((n * 2 ^ k : Nat) : Int) := by simp
  rw [e1, shl_u64 _ _ (by omega), e2]
  have e3 : ((n * 2 ^ k : Nat) : Int) % 18446744073709551616 = ((n * 2 ^ k : Nat) : Int) := by omega
  rw [e3, bits_eq, u64_or_nat _ _ (by omega) (by omega), Nat.or_comm, Nat.mul_comm n, ← Nat.two_pow_add_eq_or_of_lt hm]
  omega
theorem of_ok : conOf.Vc body49 := by
  rw [of_vc]
  intro x hx
  obtain ⟨hb, hl⟩ := (hx : Bs x.G x.p x.l x.c x.d ∧ x.l = 4)
  obtain ⟨k, o, e0, a0, b0⟩ := hb.nth (i := 0) (by omega)
  obtain ⟨k1, o1, e1, a1, b1⟩ := hb.nth (i := 1) (by omega)
  obtain ⟨k2, o2, e2, a2, b2⟩ := hb.nth (i := 2) (by omega)
  obtain ⟨k3, o3, e3, a3, b3⟩ := hb.nth (i := 3) (by omega)
  have no : ∀ {Q : Prop} {c : Int}, decide (c < (x.l : Int)) = false → c < 4 → Q := fun h hc => by
    have := of_decide_eq_false h
    omega
  refine ⟨fun _ => ⟨by omega, fun _ => ⟨k, o, e0, _, a0, fun r hr r1 hr1 r2 hr2 => ⟨fun _ => ⟨by omega, fun _ => ⟨k1, o1, e1, _, a1, fun r3 hr3 r4 hr4 r5 hr5 =>
    ⟨fun _ => ⟨by omega, fun _ => ⟨k2, o2, e2, _, a2, fun r6 hr6 r7 hr7 r8 hr8 => ⟨fun _ => ⟨by omega, fun _ => ⟨k3, o3, e3, _, a3, fun r9 hr9 r10 hr10 r11 hr11 => ⟨fun h4 => ?_, fun _ => ?_⟩⟩⟩, fun h => no h (by omega)⟩⟩⟩, fun h => no h (by omega)⟩⟩⟩, fun h => no h (by omega)⟩⟩⟩, fun h => no h (by omega)⟩
  · have := of_decide_eq_true h4
    omega
  · have g0 : r2 = x.d.getD 0 0 := by
      have := orByte (w := 0) (b := x.d.getD 0 0) 0 (by omega) (by omega) b0 (by omega)
      rw [hr2, hr1, hr]
      simpa using this
    obtain ⟨c0, d0⟩ := b0
    obtain ⟨c1, d1⟩ := id b1
    obtain ⟨c2, d2⟩ := id b2
    have g1 : r5 = r2 + x.d.getD 1 0 * 256 := by rw [hr5, hr4, hr3]; exact orByte 8 (by omega) (by omega) b1 (by omega)
    have g2 : r8 = r5 + x.d.getD 2 0 * 65536 := by rw [hr8, hr7, hr6]; exact orByte 16 (by omega) (by omega) b2 (by omega)
    have g3 : r11 = r8 + x.d.getD 3 0 * 16777216 := by rw [hr11, hr10, hr9]; exact orByte 24 (by omega) (by omega) b3 (by omega)
    refine ⟨r11, ?_, rfl, Sub.refl _, trivial⟩
    show r11 = _
    rw [g3, g2, g1, g0]
theorem spec49 : SpecOk Tryz.prog 49 conOf.spec :=
  Con.sound (body_ok (fun f => noSpec_ok _ f) (iter_ways 5) (fun vs w => Tryz.call49 vs w)) of_ok
end Sw
end
section
/- save.reader.text, event: what they do. -/
namespace Sw
open Go Go.Proofs Vx

def HasText (d : List Int) : Prop := ∃ t rest : List Int, t.length < 18446744073709551616 ∧ d = textB t ++ rest
structure TextRY where
  p : Option Addr
  l : Nat
  c : Nat
  d : List Int
  bad : Bool
  tp : Option Addr
  tl : Nat
  tc : Nat
  td : List Int
  G : Nat → Option Obj
def RTextPost (x : RdrX) (y : TextRY) : Prop := Sub x.G y.G ∧ Bs y.G y.p y.l y.c y.d ∧ y.l ≤ x.l ∧ Bs y.G y.tp y.tl y.tc y.td ∧ y.tl ≤ x.l ∧
  ((y.bad = true ∧ (x.bad = true ∨ ¬ HasText x.d)) ∨ (y.bad = x.bad ∧ x.d = textB y.td ++ y.d))
def conRText : Con where
  X := RdrX
  n := 1
  args _ := [.ptr 0 (.lit 0)]
  heap x := [(0, .cells (rdrRow x.p x.l x.c x.bad) 90 false)]
  G x := x.G
  pre x := RdrOk x
  Y := TextRY
  m := 1
  post x y := RTextPost x y
  res _ y := .gsl y.tp (.v y.tl) (.v y.tc)
  heap' _ y := [(0, .cells (rdrRow y.p y.l y.c y.bad) 90 false)]
  G' _ y := y.G
noncomputable def call51 (f : Nat) : SpecT := bif Nat.beq f 50 then conRNum.spec else bif Nat.beq f 75 then (conClone.frz frzClone).spec else noSpec
noncomputable def body51 : SpecT := body call51 (fun _ bx => iter bx 0) 51
def HasEv (d : List Int) : Prop := ∃ (e : Ev) (rest : List Int), IsByte e.k ∧ IsU64 e.a ∧ e.d.length < 18446744073709551616 ∧ d = evB e ++ rest
structure EvRY where
  p : Option Addr
  l : Nat
  c : Nat
  d : List Int
  bad : Bool
  e : Ev
  G : Nat → Option Obj
def REvPost (x : RdrX) (y : EvRY) : Prop := Sub x.G y.G ∧ Bs y.G y.p y.l y.c y.d ∧ y.l ≤ x.l ∧ EvOk y.G y.e ∧ y.e.l ≤ x.l ∧
  ((y.bad = true ∧ (x.bad = true ∨ ¬ HasEv x.d)) ∨ (y.bad = x.bad ∧ IsByte y.e.k ∧ x.d = evB y.e ++ y.d))
def conREv : Con where
  X := RdrX
  n := 1
  args _ := [.ptr 0 (.lit 0)]
  heap x := [(0, .cells (rdrRow x.p x.l x.c x.bad) 90 false)]
  G x := x.G
  pre x := RdrOk x
  Y := EvRY
  m := 1
  post x y := REvPost x y
  res _ y := .agg (.cons (.int .i64 (.v y.e.k)) (.cons (.int .u64 (.v y.e.a)) (.cons (.gsl y.e.p (.v y.e.l) (.v y.e.c)) .nil)))
  heap' _ y := [(0, .cells (rdrRow y.p y.l y.c y.bad) 90 false)]
  G' _ y := y.G
noncomputable def call52 (f : Nat) : SpecT := bif Nat.beq f 50 then conRNum.spec else bif Nat.beq f 51 then conRText.spec else noSpec
noncomputable def body52 : SpecT := body call52 (fun _ bx => iter bx 0) 52
end Sw
end
section
/- What SwRead2's conditions come to, word for word: made by a program. -/
set_option maxRecDepth 100000
set_option linter.unusedVariables false
namespace Sw
open Go Go.Proofs Vx
theorem rtext_vc : (conRText.Vc body51) = (
∀ (x : Sw.RdrX), Sw.conRText.pre x →
 ∃ (x_1 : Sw.RdrX), x_1.p = x.p ∧
 x_1.l = x.l ∧
 x_1.c = x.c ∧
 x_1.bad = x.bad ∧
 Vx.Sub (Sw.conRNum.G x_1) x.G ∧
 Sw.conRNum.pre x_1 ∧
 ∀ (y : Sw.NumY), Sw.conRNum.post x_1 y →
 (y.bad = Bool.true →
 ∃ (y_1 : Sw.TextRY), Sw.conRText.post x y_1 ∧
 y_1.tp = Option.none ∧
 y_1.tl = (0 : Nat) ∧
 y_1.tc = (0 : Nat) ∧
 y_1.p = y.p ∧ y_1.l = y.l ∧ y_1.c = y.c ∧ y_1.bad = Bool.true ∧ Vx.Sub (Sw.conRText.G' x y_1) x_1.G ∧ True) ∧
 (y.bad = Bool.false →
 ∀ (r : Int), r = Go.IntKind.u64.wrap (↑y.l : Int) →
 (Decidable.decide (y.v > r) = Bool.true →
 ∃ (y_1 : Sw.TextRY), Sw.conRText.post x y_1 ∧
 y_1.tp = Option.none ∧
 y_1.tl = (0 : Nat) ∧
 y_1.tc = (0 : Nat) ∧
 y_1.p = y.p ∧ y_1.l = y.l ∧ y_1.c = y.c ∧ y_1.bad = Bool.true ∧ Vx.Sub (Sw.conRText.G' x y_1) x_1.G ∧ True) ∧
 (Decidable.decide (y.v > r) = Bool.false →
 y.l ≤ y.c ∧
 (y.l ≤ y.c →
 ((0 : Int) ≤ y.v ∧ y.v ≤ (↑y.c : Int)) ∧
 ((0 : Int) ≤ y.v ∧ y.v ≤ (↑y.c : Int) →
 ∀ (a' : Option Go.Addr), (a' = if y.c = (0 : Nat) then y.p else Option.map (fun (x : Go.Addr) => x.add (0 : Nat)) y.p) →
 ∃ (x_2 : Sw.BsX), x_2.p = a' ∧
 x_2.l = y.v.toNat - (0 : Nat) ∧
 x_2.c = y.c - (0 : Nat) ∧
 Vx.Sub ((Sw.conClone.frz Sw.frzClone).G x_2) x_1.G ∧
 (Sw.conClone.frz Sw.frzClone).pre x_2 ∧
 ∀ (y_1 : Sw.conClone.Y × Nat), (Sw.conClone.frz Sw.frzClone).post x_2 y_1 →
 y.l ≤ y.c ∧
 (y.l ≤ y.c →
 ((0 : Int) ≤ y.v ∧ y.v ≤ (↑y.l : Int)) ∧
 ((0 : Int) ≤ y.v ∧ y.v ≤ (↑y.l : Int) →
 ∀ (a' : Option Go.Addr), (a' =
 if y.c = y.v.toNat then y.p
 else Option.map (fun (x : Go.Addr) => x.add (y.v.toNat * (1 : Nat))) y.p) →
 ∃ (y_2 : Sw.TextRY), Sw.conRText.post x y_2 ∧
 y_2.tp = Option.some { block := y_1.snd, off := (0 : Nat) } ∧
 y_2.tl = y_1.fst.xs.length ∧
 y_2.tc = y_1.fst.xs.length + y_1.fst.vs.length ∧
 y_2.p = a' ∧
 y_2.l = y.l - y.v.toNat ∧
 y_2.c = y.c - y.v.toNat ∧
 y_2.bad = y.bad ∧
 (Vx.Sub (Sw.conRText.G' x y_2) fun (b : Nat) =>
 if b = y_1.snd then Option.some (Sw.frzClone.obj x_2 y_1.fst)
 else Sw.conClone.G' x_2 y_1.fst b) ∧
 True))))))) := by kernel_rfl
theorem rev_vc : (conREv.Vc body52) = (
∀ (x : Sw.RdrX), Sw.conREv.pre x →
 ∃ (x_1 : Sw.RdrX), x_1.p = x.p ∧
 x_1.l = x.l ∧
 x_1.c = x.c ∧
 x_1.bad = x.bad ∧
 Vx.Sub (Sw.conRNum.G x_1) x.G ∧
 Sw.conRNum.pre x_1 ∧
 ∀ (y : Sw.NumY), Sw.conRNum.post x_1 y →
 (Decidable.decide (y.v > (255 : Int)) = Bool.true →
 ∀ (r : Int), r = Go.IntKind.i64.wrap y.v →
 ∃ (x_2 : Sw.RdrX), x_2.p = y.p ∧
 x_2.l = y.l ∧
 x_2.c = y.c ∧
 x_2.bad = Bool.true ∧
 Vx.Sub (Sw.conRNum.G x_2) x_1.G ∧
 Sw.conRNum.pre x_2 ∧
 ∀ (y : Sw.NumY), Sw.conRNum.post x_2 y →
 ∃ (x_3 : Sw.RdrX), x_3.p = y.p ∧
 x_3.l = y.l ∧
 x_3.c = y.c ∧
 x_3.bad = y.bad ∧
 Vx.Sub (Sw.conRText.G x_3) x_2.G ∧
 Sw.conRText.pre x_3 ∧
 ∀ (y_1 : Sw.TextRY), Sw.conRText.post x_3 y_1 →
 ∃ (y_2 : Sw.EvRY), Sw.conREv.post x y_2 ∧
 y_2.e.k = r ∧
 y_2.e.a = y.v ∧
 y_2.e.p = y_1.tp ∧
 y_2.e.l = y_1.tl ∧
 y_2.e.c = y_1.tc ∧
 y_2.p = y_1.p ∧
 y_2.l = y_1.l ∧
 y_2.c = y_1.c ∧
 y_2.bad = y_1.bad ∧ Vx.Sub (Sw.conREv.G' x y_2) y_1.G ∧ True) ∧
 (Decidable.decide (y.v > (255 : Int)) = Bool.false →
 ∀ (r : Int), r = Go.IntKind.i64.wrap y.v →
 ∃ (x_2 : Sw.RdrX), x_2.p = y.p ∧
 x_2.l = y.l ∧
 x_2.c = y.c ∧
 x_2.bad = y.bad ∧
 Vx.Sub (Sw.conRNum.G x_2) x_1.G ∧
 Sw.conRNum.pre x_2 ∧
 ∀ (y : Sw.NumY), Sw.conRNum.post x_2 y →
 ∃ (x_3 : Sw.RdrX), x_3.p = y.p ∧
 x_3.l = y.l ∧
 x_3.c = y.c ∧
 x_3.bad = y.bad ∧
 Vx.Sub (Sw.conRText.G x_3) x_2.G ∧
 Sw.conRText.pre x_3 ∧
 ∀ (y_1 : Sw.TextRY), Sw.conRText.post x_3 y_1 →
 ∃ (y_2 : Sw.EvRY), Sw.conREv.post x y_2 ∧
 y_2.e.k = r ∧
 y_2.e.a = y.v ∧
 y_2.e.p = y_1.tp ∧
 y_2.e.l = y_1.tl ∧
 y_2.e.c = y_1.tc ∧
 y_2.p = y_1.p ∧
 y_2.l = y_1.l ∧
 y_2.c = y_1.c ∧
 y_2.bad = y_1.bad ∧ Vx.Sub (Sw.conREv.G' x y_2) y_1.G ∧ True)) := by kernel_rfl
end Sw
end
section
/- save.reader.text and event do what is said. -/
namespace Sw
set_option maxRecDepth 100000
open Go Go.Proofs Vx

theorem numB_wrap (n : Nat) (h : n < 18446744073709551616) : ((n : Int).toNat) = n := by omega
theorem hasNum_of_text {d : List Int} (h : HasText d) : HasNum d := by
  obtain ⟨t, rest, h1, h2⟩ := h
  exact ⟨t.length, t ++ rest, h1, by rw [h2, textB, List.append_assoc]⟩
theorem a0_eq {p a : Option Addr} {c : Nat} (h : a = if c = 0 then p else p.map fun x => x.add 0) : a = p := by
  rw [h]
  split
  · rfl
  · cases p with
    | none => rfl
    | some x => cases x; simp [Addr.add]
theorem bs_nil (G : Nat → Option Obj) : Bs G none 0 0 [] := ⟨rfl, Nat.le_refl _, .inl ⟨rfl, rfl⟩, fun b hb => by cases hb⟩
theorem rtext_ok : conRText.Vc body51 := by
  rw [rtext_vc]
  intro x hx
  obtain ⟨hb, hl⟩ := (hx : RdrOk x)
  refine ⟨x, rfl, rfl, rfl, rfl, Sub.refl _, ⟨hb, hl⟩, fun y hy => ?_⟩
  obtain ⟨k1, k2, ⟨k3, k3'⟩, k4⟩ := (hy : RNumPost x y)
  have hcap := k1.cap
  have bad : (x.bad = true ∨ ¬ HasText x.d) → ∃ (y_1 : Sw.TextRY), Sw.conRText.post x y_1 ∧ y_1.tp = Option.none ∧ y_1.tl = (0 : Nat) ∧ y_1.tc = (0 : Nat) ∧ y_1.p = y.p ∧ y_1.l = y.l ∧ y_1.c = y.c ∧ y_1.bad = Bool.true ∧ Vx.Sub (Sw.conRText.G' x y_1) x.G ∧ True := by
    intro h
    exact ⟨⟨y.p, y.l, y.c, y.d, true, none, 0, 0, [], x.G⟩, ⟨Sub.refl _, k1, k2, bs_nil _, Nat.zero_le _, .inl ⟨rfl, h⟩⟩, rfl, rfl, rfl, rfl, rfl, rfl, rfl, Sub.refl _, trivial⟩
  refine ⟨fun hbad => ?_, fun hgood r hr => ⟨fun hgt => ?_, fun hle => ?_⟩⟩
  · rcases k4 with ⟨_, h | h⟩ | ⟨h, _⟩
    · exact bad (.inl h)
    · exact bad (.inr fun hn => h (hasNum_of_text hn))
    · exact bad (.inl (by rw [← h]; exact hbad))
  · have hgt := of_decide_eq_true hgt
    rcases k4 with ⟨h, _⟩ | ⟨_, h⟩
    · rw [hgood] at h; cases h
    · refine bad (.inr fun ⟨t, rest, g1, g2⟩ => ?_)
      rw [textB, List.append_assoc, h] at g2
      obtain ⟨g3, g4⟩ := num_inj (by omega) g1 g2
      have := k1.len
      rw [g4] at this
      simp only [List.length_append] at this
      rw [wu64] at hr
      omega
  · have hle := of_decide_eq_false hle
    rw [wu64] at hr
    refine ⟨by omega, fun _ => ⟨by omega, fun _ a ha => ?_⟩⟩
    have := a0_eq ha
    subst this
    have hvl : y.v.toNat ≤ y.l := by omega
    have hct := k1.take hvl
    refine ⟨⟨y.p, y.v.toNat, y.c, y.d.take y.v.toNat, x.G⟩, rfl, by simp, by simp, Sub.refl _, ⟨hct, ?_⟩, fun y1 hy1 => ⟨by omega, fun _ => ⟨by omega, fun _ a' ha' => ?_⟩⟩⟩
    · show y.v.toNat ≤ 1000000; omega
    · obtain ⟨⟨z1, z2⟩, a⟩ := y1
      obtain ⟨⟨q1, q2⟩, q3⟩ := (hy1 : (z1 = y.d.take y.v.toNat ∧ Cells z2) ∧ x.G a = none)
      have q1 : z1 = y.d.take y.v.toNat := q1
      have hsub : Sub x.G (addG a (.cells (z1.map (Value.int .u8) ++ z2).toArray 5 (0, 0)) x.G) := addG_sub q3
      have hdr := (k1.drop hvl (by simpa using ha')).mono hsub
      have hfz := bs_frz x.G a z1 z2 (fun b hb => k1.byte b (List.mem_of_mem_take (q1 ▸ hb)))
      have hzl : z1.length = y.v.toNat := by rw [q1, List.length_take, k1.len]; omega
      refine ⟨⟨a', y.l - y.v.toNat, y.c - y.v.toNat, y.d.drop y.v.toNat, y.bad, some ⟨a, 0, none⟩, z1.length, z1.length + z2.length, z1, addG a (.cells (z1.map (Value.int .u8) ++ z2).toArray 5 (0, 0)) x.G⟩,
        ⟨hsub, hdr, ?_, hfz, ?_, ?_⟩, rfl, rfl, rfl, rfl, rfl, rfl, rfl, Sub.refl _, trivial⟩
      · show y.l - y.v.toNat ≤ x.l; omega
      · show z1.length ≤ x.l; omega
      · rcases k4 with ⟨h, _⟩ | ⟨h1, h2⟩
        · rw [hgood] at h; cases h
        · refine .inr ⟨h1, ?_⟩
          show x.d = textB z1 ++ y.d.drop y.v.toNat
          rw [textB, hzl, q1, List.append_assoc, List.take_append_drop]
          exact h2
theorem call51_ok (f : Nat) : SpecOk Tryz.prog f (call51 f) := by
  unfold call51
  cases h50 : Nat.beq f 50
  · cases h75 : Nat.beq f 75
    · exact noSpec_ok _ f
    · have := beq_t h75
      subst this
      exact spec75
  · have := beq_t h50
    subst this
    exact spec50
theorem spec51 : SpecOk Tryz.prog 51 conRText.spec :=
  Con.sound (body_ok call51_ok (iter_ways 0) (fun vs w => Tryz.call51 vs w)) rtext_ok

theorem RdrOk.next {x : RdrX} (hl : x.l ≤ 1000000) {y : NumY} (h : RNumPost x y) : RdrOk ⟨y.p, y.l, y.c, y.d, y.bad, x.G⟩ := by
  obtain ⟨k1, k2, _, _⟩ := h
  exact ⟨k1, by show y.l ≤ 1000000; omega⟩
theorem rev_ok : conREv.Vc body52 := by
  rw [rev_vc]
  intro x hx
  obtain ⟨hb, hl⟩ := (hx : RdrOk x)
  refine ⟨x, rfl, rfl, rfl, rfl, Sub.refl _, ⟨hb, hl⟩, fun y hy => ?_⟩
  have hy : RNumPost x y := hy
  obtain ⟨k1, k2, ⟨k3, k3'⟩, k4⟩ := id hy
  have fin : ∀ (bad : Bool) (r : Int), r = IntKind.i64.wrap y.v → (bad = true ∧ 255 < y.v ∨ bad = y.bad ∧ y.v ≤ 255) →
      ∃ (x_2 : Sw.RdrX), x_2.p = y.p ∧ x_2.l = y.l ∧ x_2.c = y.c ∧ x_2.bad = bad ∧ Vx.Sub (Sw.conRNum.G x_2) x.G ∧ Sw.conRNum.pre x_2 ∧ ∀ (y : Sw.NumY), Sw.conRNum.post x_2 y →
      ∃ (x_3 : Sw.RdrX), x_3.p = y.p ∧ x_3.l = y.l ∧ x_3.c = y.c ∧ x_3.bad = y.bad ∧ Vx.Sub (Sw.conRText.G x_3) x_2.G ∧ Sw.conRText.pre x_3 ∧ ∀ (y_1 : Sw.TextRY), Sw.conRText.post x_3 y_1 →
      ∃ (y_2 : Sw.EvRY), Sw.conREv.post x y_2 ∧ y_2.e.k = r ∧ y_2.e.a = y.v ∧ y_2.e.p = y_1.tp ∧ y_2.e.l = y_1.tl ∧ y_2.e.c = y_1.tc ∧ y_2.p = y_1.p ∧ y_2.l = y_1.l ∧ y_2.c = y_1.c ∧ y_2.bad = y_1.bad ∧ Vx.Sub (Sw.conREv.G' x y_2) y_1.G ∧ True := by
    intro bad r hr hbad
    refine ⟨⟨y.p, y.l, y.c, y.d, bad, x.G⟩, rfl, rfl, rfl, rfl, Sub.refl _, RdrOk.next hl hy, fun y2 hy2 => ?_⟩
    have hy2 : RNumPost ⟨y.p, y.l, y.c, y.d, bad, x.G⟩ y2 := hy2
    have hl2 : y.l ≤ 1000000 := by omega
    have hr2 := RdrOk.next (x := ⟨y.p, y.l, y.c, y.d, bad, x.G⟩) hl2 hy2
    obtain ⟨m1, m2, m3, m4⟩ := id hy2
    have m2 : y2.l ≤ y.l := m2
    refine ⟨⟨y2.p, y2.l, y2.c, y2.d, y2.bad, x.G⟩, rfl, rfl, rfl, rfl, Sub.refl _, hr2, fun y3 hy3 => ?_⟩
    obtain ⟨n1, n2, n3, n4, n5, n6⟩ := (hy3 : RTextPost ⟨y2.p, y2.l, y2.c, y2.d, y2.bad, x.G⟩ y3)
    have n3 : y3.l ≤ y2.l := n3
    have n5 : y3.tl ≤ y2.l := n5
    have hwr : -9223372036854775808 ≤ r ∧ r < 9223372036854775808 := by
      rw [hr]
      simp only [IntKind.wrap, IntKind.bits, IntKind.signed]
      simp
      split <;> omega
    refine ⟨⟨y3.p, y3.l, y3.c, y3.d, y3.bad, ⟨r, y2.v, y3.tp, y3.tl, y3.tc, y3.td⟩, y3.G⟩, ⟨n1, n2, ?_, ⟨hwr, m3, n4⟩, ?_, ?_⟩, rfl, rfl, rfl, rfl, rfl, rfl, rfl, rfl, rfl, Sub.refl _, trivial⟩
    · show y3.l ≤ x.l; omega
    · show y3.tl ≤ x.l; omega
    · -- what the pieces come to
      show (y3.bad = true ∧ (x.bad = true ∨ ¬ HasEv x.d)) ∨ (y3.bad = x.bad ∧ IsByte r ∧ x.d = evB ⟨r, y2.v, y3.tp, y3.tl, y3.tc, y3.td⟩ ++ y3.d)
      have no1 : ¬ HasNum x.d → ¬ HasEv x.d := fun h ⟨e, rest, e1, e2, e3, e4⟩ => by
        obtain ⟨e1, e1'⟩ := e1
        refine h ⟨(IntKind.u64.wrap e.k).toNat, _, ?_, by rw [e4, evB, List.append_assoc]⟩
        rw [wu64]; omega
      have step1 : ∀ (e : Ev) (rest : List Int), IsByte e.k → IsU64 e.a → e.d.length < 18446744073709551616 → x.d = evB e ++ rest → x.d = numB 10 y.v.toNat ++ y.d →
          y.v = e.k ∧ y.d = numB 10 e.a.toNat ++ (textB e.d ++ rest) := by
        intro e rest e1 e2 e3 e4 e5
        obtain ⟨e1, e1'⟩ := e1
        rw [e5, evB, List.append_assoc, List.append_assoc] at e4
        have hw : IntKind.u64.wrap e.k = e.k := by rw [wu64]; omega
        rw [hw] at e4
        obtain ⟨f1, f2⟩ := num_inj (by omega) (by omega) e4
        exact ⟨by omega, f2⟩
      rcases n6 with ⟨g1, g2⟩ | ⟨g1, g2⟩
      · refine .inl ⟨g1, ?_⟩
        by_cases hxb : x.bad = true
        · exact .inl hxb
        · refine .inr fun hev => ?_
          obtain ⟨e, rest, e1, e2, e3, e4⟩ := id hev
          rcases k4 with ⟨q1, q2 | q2⟩ | ⟨q1, q2⟩
          · exact hxb q2
          · exact no1 q2 hev
          · obtain ⟨f1, f2⟩ := step1 e rest e1 e2 e3 e4 q2
            obtain ⟨e1, e1'⟩ := e1
            have hb0 : bad = false := by
              rcases hbad with ⟨_, h⟩ | ⟨h, _⟩
              · omega
              · rw [h, q1]; simpa using hxb
            rcases m4 with ⟨p1, p2 | p2⟩ | ⟨p1, p2⟩
            · rw [hb0] at p2; cases p2
            · exact p2 ⟨e.a.toNat, _, by have := e2.1; have := e2.2; omega, f2⟩
            · have p1 : y2.bad = bad := p1
              have p2 : y.d = numB 10 y2.v.toNat ++ y2.d := p2
              rw [p2] at f2
              obtain ⟨_, f4⟩ := num_inj (by have := m3.1; have := m3.2; omega) (by have := e2.1; have := e2.2; omega) f2
              rcases g2 with g2 | g2
              · have g2 : y2.bad = true := g2
                rw [p1, hb0] at g2; cases g2
              · exact g2 ⟨e.d, rest, e3, f4⟩
      · have g1 : y3.bad = y2.bad := g1
        have g2 : y2.d = textB y3.td ++ y3.d := g2
        rcases m4 with ⟨p1, p2⟩ | ⟨p1, p2⟩
        · refine .inl ⟨by rw [g1]; exact p1, ?_⟩
          by_cases hxb : x.bad = true
          · exact .inl hxb
          · refine .inr fun hev => ?_
            obtain ⟨e, rest, e1, e2, e3, e4⟩ := id hev
            rcases k4 with ⟨q1, q2 | q2⟩ | ⟨q1, q2⟩
            · exact hxb q2
            · exact no1 q2 hev
            · obtain ⟨f1, f2⟩ := step1 e rest e1 e2 e3 e4 q2
              obtain ⟨e1, e1'⟩ := e1
              rcases p2 with p2 | p2
              · have p2 : bad = true := p2
                rcases hbad with ⟨_, h⟩ | ⟨h, _⟩
                · omega
                · rw [p2, q1] at h; exact hxb h.symm
              · exact p2 ⟨e.a.toNat, _, by have := e2.1; have := e2.2; omega, f2⟩
        · have p1 : y2.bad = bad := p1
          have p2 : y.d = numB 10 y2.v.toNat ++ y2.d := p2
          rcases hbad with ⟨h1, h2⟩ | ⟨h1, h2⟩
          · refine .inl ⟨by rw [g1, p1, h1], ?_⟩
            by_cases hxb : x.bad = true
            · exact .inl hxb
            · refine .inr fun hev => ?_
              obtain ⟨e, rest, e1, e2, e3, e4⟩ := id hev
              rcases k4 with ⟨q1, q2 | q2⟩ | ⟨q1, q2⟩
              · exact hxb q2
              · exact no1 q2 hev
              · obtain ⟨f1, f2⟩ := step1 e rest e1 e2 e3 e4 q2
                have := e1.2
                omega
          · rcases k4 with ⟨q1, q2⟩ | ⟨q1, q2⟩
            · refine .inl ⟨by rw [g1, p1, h1, q1], ?_⟩
              rcases q2 with q2 | q2
              · exact .inl q2
              · exact .inr (no1 q2)
            · have hr' : r = y.v := by rw [hr, w64 _ (by omega) (by omega)]
              refine .inr ⟨by rw [g1, p1, h1, q1], ⟨by omega, by omega⟩, ?_⟩
              rw [evB]
              have hw : IntKind.u64.wrap r = y.v := by rw [hr', wu64]; omega
              simp only [hw]
              rw [List.append_assoc, List.append_assoc, ← g2, ← p2]
              exact q2
  refine ⟨fun hgt r hr => ?_, fun hle r hr => ?_⟩
  · exact fin true r hr (.inl ⟨rfl, of_decide_eq_true hgt⟩)
  · exact fin y.bad r hr (.inr ⟨rfl, by have := of_decide_eq_false hle; omega⟩)
theorem call52_ok (f : Nat) : SpecOk Tryz.prog f (call52 f) := by
  unfold call52
  cases h50 : Nat.beq f 50
  · cases h51 : Nat.beq f 51
    · exact noSpec_ok _ f
    · have := beq_t h51
      subst this
      exact spec51
  · have := beq_t h50
    subst this
    exact spec50
theorem spec52 : SpecOk Tryz.prog 52 conREv.spec :=
  Con.sound (body_ok call52_ok (iter_ways 0) (fun vs w => Tryz.call52 vs w)) rev_ok
end Sw
end
section
/- save.Parse, and the sum and the comparison of bytes that stay: what they do. -/
namespace Sw
open Go Go.Proofs Vx

def sumGL (g : BsX) : LoopS where
  X := IW
  f := 0
  m := 0
  tmps x := [(6, .gsl g.p (.v g.l) (.v g.c)), (7, .int .i64 (.v g.l)), (8, .int .i64 (.v x.i)), (3, .int .u64 (.v x.w))]
  heap x := []
  G x := g.G
  inv x := (x.i ≤ g.l ∧ x.w = sumB (g.d.take x.i)) ∧ Bs g.G g.p g.l g.c g.d ∧ g.l ≤ 1000000
  mea x := g.l - x.i
def conSumG : Con where
  X := BsX
  n := 0
  args x := [.gsl x.p (.v x.l) (.v x.c)]
  heap _ := []
  G x := x.G
  pre x := Bs x.G x.p x.l x.c x.d ∧ x.l ≤ 1000000
  Y := Int
  m := 0
  post x y := y = sumB x.d
  res _ y := .int .u64 (.v y)
  heap' _ _ := []
  G' x _ := x.G
noncomputable def body44G : SpecT := body (fun _ => noSpec) (fun _ => famL sumGL) 44

structure TwoBs where
  p : Option Addr
  l : Nat
  c : Nat
  d : List Int
  p2 : Option Addr
  l2 : Nat
  c2 : Nat
  d2 : List Int
  G : Nat → Option Obj
def CmpGPre (g : TwoBs) : Prop := Bs g.G g.p g.l g.c g.d ∧ Bs g.G g.p2 g.l2 g.c2 g.d2 ∧ g.l ≤ 1000000
def cmpGL (g : TwoBs) : LoopS where
  X := Nat
  f := 0
  m := 0
  tmps i := [(0, .gsl g.p (.v g.l) (.v g.c)), (1, .gsl g.p2 (.v g.l2) (.v g.c2)), (5, .int .i64 (.v i))]
  heap i := []
  G i := g.G
  inv i := (i ≤ g.l ∧ g.l = g.l2 ∧ g.d.take i = g.d2.take i) ∧ CmpGPre g
  mea i := g.l - i
def conCmpG : Con where
  X := TwoBs
  n := 0
  args x := [.gsl x.p (.v x.l) (.v x.c), .gsl x.p2 (.v x.l2) (.v x.c2)]
  heap x := []
  G x := x.G
  pre x := CmpGPre x
  Y := Bool
  m := 0
  post x y := y = decide (x.d = x.d2)
  res _ y := .bool (.v y)
  heap' x _ := []
  G' x _ := x.G
noncomputable def body13G : SpecT := body (fun _ => noSpec) (fun _ => famL cmpGL) 13

/-! ### Parse -/
/-- A record that may be written: what its bytes hang on. -/
structure Canon (r : RecX) : Prop where
  ram : IsU64 r.ram
  sec : IsU64 r.sec
  dd : r.dd.length < 18446744073709551616
  id : r.id.length < 18446744073709551616
  name : (bytesOf r.name).length < 18446744073709551616
  el : r.evs.length = r.el ∧ r.el < 18446744073709551616
  ev : ∀ e ∈ r.evs, IsByte e.k ∧ IsU64 e.a ∧ e.d.length < 18446744073709551616
def NoRec (pay : List Int) : Prop := ¬ ∃ r : RecX, Canon r ∧ pay = recB r
/-- Events alike: not where their bytes lie. -/
def EvSame (e f : Ev) : Prop := e.k = f.k ∧ e.a = f.a ∧ e.d = f.d
def EvsSame : List Ev → List Ev → Prop
  | [], [] => True
  | e :: r, f :: s => EvSame e f ∧ EvsSame r s
  | _, _ => False
structure RecSame (r s : RecX) : Prop where
  ram : r.ram = s.ram
  sec : r.sec = s.sec
  locked : r.locked = s.locked
  dd : r.dd = s.dd
  id : r.id = s.id
  name : r.name = s.name
  el : r.el = s.el
  evs : EvsSame r.evs s.evs
/-- A reader's state within a record's bytes. -/
def Cur (pay pre : List Int) (bad : Bool) (d : List Int) (tl : RecX → List Int) (Q : RecX → Prop) : Prop :=
  (bad = true ∧ NoRec pay) ∨ (bad = false ∧ pay = pre ++ d ∧ ∀ r : RecX, Canon r → pay = recB r → d = tl r ∧ Q r)
structure ParY where
  r : RecX
  err : Int
def ParsePost (x : BsX) (y : ParY) : Prop := Sub x.G y.r.G ∧ RecOk y.r ∧ (y.r.dl ≤ x.l ∧ y.r.il ≤ x.l ∧ y.r.name.size ≤ x.l ∧ y.r.el ≤ x.l ∧ ∀ e ∈ y.r.evs, e.l ≤ x.l) ∧
  ((y.err = 0 ∧ (∀ e ∈ y.r.evs, IsByte e.k) ∧ x.d = recB y.r ++ word4 (sumB (recB y.r)) ∧ ∀ r, Canon r → recB y.r = recB r → RecSame y.r r) ∨
   (y.err = 250 ∧ y.r.ram = 0 ∧ y.r.el = 0 ∧ ¬ ∃ r, Canon r ∧ x.d = recB r ++ word4 (sumB (recB r))))
def conParse : Con where
  X := BsX
  n := 0
  args x := [.gsl x.p (.v x.l) (.v x.c)]
  heap _ := []
  G x := x.G
  pre x := Bs x.G x.p x.l x.c x.d ∧ x.l ≤ 30000
  Y := ParY
  m := 1
  post x y := ParsePost x y
  res _ y := .tup (.cons (.agg (recRow y.r)) (.cons (.int .i64 (.v y.err)) .nil))
  heap' _ _ := []
  G' _ y := y.r.G
/-- The record while it is read: its events lie in a list of its own. -/
def recRowO (x : RecX) (id : Nat) : SV :=
  .cons (.int .u64 (.v x.ram)) (.cons (.int .u64 (.v x.sec)) (.cons (.bool (.v x.locked)) (.cons (.gsl x.dp (.v x.dl) (.v x.dc))
    (.cons (.gsl x.ip (.v x.il) (.v x.ic)) (.cons (.str (.v x.name)) (.cons (.slice id (.lit 0) (.v x.el) (.v x.ec)) .nil))))))
def evObj (es : List Ev) (vs : List Value) : SObj := .cells (.cons (.blob (.v (3 * es.length)) (evsCells es)) (.cons (.blob (.v vs.length) vs) .nil)) 74 false
structure ParZ where
  r : RecX
  vs : List Value
structure RecPre (x : RecX) : Prop where
  ram : IsU64 x.ram
  sec : IsU64 x.sec
  disk : Bs x.G x.dp x.dl x.dc x.dd
  image : Bs x.G x.ip x.il x.ic x.id
  evLen : x.evs.length = x.el
  evs : ∀ e ∈ x.evs, EvOk x.G e
  name : x.name.size < 9223372036854775808
  evBig : x.el < 9223372036854775808
def ZPost (x : BsX) (r : RecX) : Prop := Sub x.G r.G ∧ RecPre r ∧ (r.dl ≤ x.l ∧ r.il ≤ x.l ∧ r.name.size ≤ x.l ∧ r.el ≤ x.l ∧ ∀ e ∈ r.evs, e.l ≤ x.l) ∧
  (∀ e ∈ r.evs, IsByte e.k) ∧ x.d = recB r ++ word4 (sumB (recB r)) ∧ ∀ s, Canon s → recB r = recB s → RecSame r s
theorem EvOk.mono {G G' : Nat → Option Obj} {e : Ev} (h : EvOk G e) (hG : Sub G G') : EvOk G' e := ⟨h.k, h.a, h.d.mono hG⟩
def withEp (r : RecX) (a : Nat) (vs : List Value) : RecX := { r with ep := some ⟨a, 0, none⟩, G := addG a (.cells (evsCells r.evs ++ vs).toArray 74 (0, 0)) r.G }
theorem withEp_ok {x : BsX} {r : RecX} {a : Nat} {vs : List Value} (h : ZPost x r) (hG : r.G a = none) : ParsePost x ⟨withEp r a vs, 0⟩ := by
  obtain ⟨h1, h2, h3, h4, h5, h6⟩ := h
  have hs : Sub r.G (withEp r a vs).G := addG_sub hG
  refine ⟨h1.trans hs, ⟨h2.ram, h2.sec, h2.disk.mono hs, h2.image.mono hs, h2.evLen, ?_, fun e he => (h2.evs e he).mono hs, h2.name, h2.evBig⟩, h3, .inl ⟨rfl, h4, h5, fun s hs he => ?_⟩⟩
  · refine .inr ⟨a, 0, rfl, _, _, _, addG_self _ _ _, fun j v hj => ?_⟩
    have hlt : j < (evsCells r.evs).length := (List.getElem?_eq_some_iff.1 hj).1
    simp only [List.getElem?_toArray, Nat.zero_add]
    rw [List.getElem?_append_left hlt]
    exact hj
  · have g := h6 s hs he
    exact ⟨g.ram, g.sec, g.locked, g.dd, g.id, g.name, g.el, g.evs⟩
structure ParG where
  x : BsX
  pre : List Int
  d : List Int
  n : Int
  lk : Int
  r : RecX
structure ParI where
  i : Int
  p : Option Addr
  l : Nat
  c : Nat
  d : List Int
  bad : Bool
  es : List Ev
  ec : Nat
  vs : List Value
  G : Nat → Option Obj
/-- What is known of the record ahead of its events. -/
structure HeadOk (g : ParG) : Prop where
  sub : Sub g.x.G g.r.G
  l : g.x.l ≤ 30000
  ram : IsU64 g.r.ram
  sec : IsU64 g.r.sec
  disk : Bs g.r.G g.r.dp g.r.dl g.r.dc g.r.dd
  image : Bs g.r.G g.r.ip g.r.il g.r.ic g.r.id
  small : g.r.dl ≤ g.x.l ∧ g.r.il ≤ g.x.l ∧ g.r.name.size ≤ g.x.l
  n : IsU64 g.n
  locked : g.r.locked = (g.lk == 1)
  lk : IsU64 g.lk
  pre : g.lk ≤ 1 → g.pre = headB { g.r with el := g.n.toNat }
  sum : g.x.d = (g.pre ++ g.d) ++ word4 (sumB (g.pre ++ g.d))
  cur : Cur (g.pre ++ g.d) g.pre false g.d (fun r => evsB r.evs) fun r => r.ram = g.r.ram ∧ r.sec = g.r.sec ∧ (cond r.locked 1 0 : Int) = g.lk ∧ r.dd = g.r.dd ∧ r.id = g.r.id ∧ bytesOf r.name = bytesOf g.r.name ∧ (r.el : Int) = g.n
/-- What is known while events are read. -/
structure ParSem (g : ParG) (i : Int) (p : Option Addr) (l c : Nat) (d : List Int) (bad : Bool) (es : List Ev) (G : Nat → Option Obj) : Prop where
  head : HeadOk g
  sub : Sub g.r.G G
  bs : Bs G p l c d
  evs : ∀ e ∈ es, EvOk G e ∧ e.l ≤ g.x.l
  hi : i = es.length
  le : i ≤ g.n
  hl : l ≤ g.x.l
  used : bad = false → l + 3 * es.length ≤ g.x.l
  few : es.length ≤ 10001
  sem : (bad = true ∧ NoRec (g.pre ++ g.d)) ∨ (bad = false ∧ (∀ e ∈ es, IsByte e.k) ∧ g.d = evsB es ++ d ∧ ∀ r, Canon r → g.pre ++ g.d = recB r → EvsSame es (r.evs.take es.length) ∧ d = evsB (r.evs.drop es.length))
def ParInv (g : ParG) (z : ParI) : Prop := ParSem g z.i z.p z.l z.c z.d z.bad z.es z.G ∧ Cells z.vs ∧ z.es.length ≤ z.ec ∧ z.ec * 3 = 3 * z.es.length + z.vs.length
def parL (g : ParG) : LoopS where
  X := ParI
  f := 3
  m := 4
  tmps z := [(2, .ptr 2 (.lit 0)), (4, .ptr 0 (.lit 0)), (6, .int .u64 (.v g.lk)), (7, .ptr 1 (.lit 0)), (8, .int .u64 (.v g.n)), (9, .int .u64 (.v z.i))]
  heap z := [(0, .cells (rdrRow z.p z.l z.c z.bad) 90 false), (1, .cells (recRowO { g.r with el := z.es.length, ec := z.ec } 3) 28 false), (3, evObj z.es z.vs)]
  G z := z.G
  inv z := ParInv g z
  mea z := (g.n - z.i).toNat
/-- The three texts. -/
structure P9X where
  x : RdrX
  ram : Int
  sec : Int
  locked : Bool
  lk : Int
structure P9Y where
  p : Option Addr
  l : Nat
  c : Nat
  d : List Int
  bad : Bool
  dp : Option Addr
  dl : Nat
  dc : Nat
  dd : List Int
  ip : Option Addr
  il : Nat
  ic : Nat
  id : List Int
  name : ByteArray
  G : Nat → Option Obj
def HasText3 (d : List Int) : Prop := ∃ a b c rest : List Int, a.length < 18446744073709551616 ∧ b.length < 18446744073709551616 ∧ c.length < 18446744073709551616 ∧ d = textB a ++ (textB b ++ (textB c ++ rest))
def P9Post (x : RdrX) (y : P9Y) : Prop := Sub x.G y.G ∧ Bs y.G y.p y.l y.c y.d ∧ y.l ≤ x.l ∧ Bs y.G y.dp y.dl y.dc y.dd ∧ y.dl ≤ x.l ∧ Bs y.G y.ip y.il y.ic y.id ∧ y.il ≤ x.l ∧ y.name.size ≤ x.l ∧
  ((y.bad = true ∧ (x.bad = true ∨ ¬ HasText3 x.d)) ∨ (y.bad = x.bad ∧ x.d = textB y.dd ++ (textB y.id ++ (textB (bytesOf y.name) ++ y.d))))
def cfgRow (ram sec : Int) (locked : Bool) (d i n : SV) : SV := .cons (.int .u64 (.v ram)) (.cons (.int .u64 (.v sec)) (.cons (.bool (.v locked)) (.cons d (.cons i (.cons n .nil)))))
def par9P : PieceS where
  X := P9X
  n := 3
  tin x := [(2, .ptr 2 (.lit 0)), (4, .ptr 0 (.lit 0)), (5, .ptr 1 (.lit 0)), (6, .int .u64 (.v x.lk))]
  heap x := [(0, .cells (rdrRow x.x.p x.x.l x.x.c x.x.bad) 90 false), (1, .cells (cfgRow x.ram x.sec x.locked .nilslice .nilslice (.str (.lit ByteArray.empty))) 25 false)]
  G x := x.x.G
  pre x := RdrOk x.x
  Y := P9Y
  m := 3
  post x y := P9Post x.x y
  tout x _ := [(2, .ptr 2 (.lit 0)), (4, .ptr 0 (.lit 0)), (5, .ptr 1 (.lit 0)), (6, .int .u64 (.v x.lk))]
  heap' x y := [(0, .cells (rdrRow y.p y.l y.c y.bad) 90 false), (1, .cells (cfgRow x.ram x.sec x.locked (.gsl y.dp (.v y.dl) (.v y.dc)) (.gsl y.ip (.v y.il) (.v y.ic)) (.str (.v y.name))) 25 false)]
  G' _ y := y.G
noncomputable def ways17 : Ways where
  loop _ := peel (famL parL)
  reg i := bif Nat.beq i 9 then par9P.twin else fun bx => bx
noncomputable def call17 (f : Nat) : SpecT := bif Nat.beq f 49 then conOf.spec else bif Nat.beq f 44 then conSumG.spec else bif Nat.beq f 50 then conRNum.spec else
  bif Nat.beq f 51 then conRText.spec else bif Nat.beq f 52 then conREv.spec else noSpec
noncomputable def body17 : SpecT := bodyW call17 ways17 17
def frzPar : FrzTo conParse where
  Y := ParZ
  post x z := ZPost x z.r
  res _ z := .tup (.cons (.agg (recRowO z.r 0)) (.cons (.int .i64 (.lit 0)) .nil))
  G' _ z := z.r.G
  id := 0
  o _ z := evObj z.r.evs z.vs
  rest _ _ := []
  to _ z a := ⟨withEp z.r a z.vs, 0⟩
  obj _ z := .cells (evsCells z.r.evs ++ z.vs).toArray 74 (0, 0)
  lo := Nat.le_refl _
  hi := Nat.lt_succ_self _
  other _ _ e he := by cases he
  den _ z ρ β := by simp [evObj, SObj.ren, SV.ren, SObj.den, SV.vals, fzOf]
  val _ z ρ β := by simp [conParse, recRow, recRowO, withEp, SV.ren, SV.val, SV.vals, NE.den, Off.den, IE.den, BE.den, SE.den]
  one _ _ _ := rfl
  wf _ _ _ n h := by simp [conParse, recRow, SV.wf]
  toHeap _ _ _ := rfl
  toG _ _ _ := rfl
  toPost x z a h hG := withEp_ok h hG
end Sw
end
