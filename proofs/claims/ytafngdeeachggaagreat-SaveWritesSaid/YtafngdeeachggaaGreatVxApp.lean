/- Conversions between texts and bytes, make, append, copy. -/
import Derived.Test.YtafngdeeachggaaGreatVxSl
import Derived.Laws.BytesString
set_option linter.unusedVariables false
set_option linter.unusedSimpArgs false
namespace Vx
open Go

/-- A literal text's bytes, each told. -/
def litRow : List UInt8 → SV
  | [] => .nil
  | b :: r => .cons (.int .u8 (.lit b.toNat)) (litRow r)
/-- The text of bytes. -/
def strOf (ns : List Int) : ByteArray := ns.foldl (fun r n => r.push (UInt8.ofNat n.toNat)) ByteArray.empty
def bytesOf (s : ByteArray) : List Int := s.data.toList.map fun b => (b.toNat : Int)

/-- The integers of a row of one kind. -/
def intsD (k : IntKind) : SV → Option (List Int)
  | .nil => some []
  | .cons h t => match h, intsD k t with
    | .int k' e, some r => bif decide (k = k') then some (e.den :: r) else none
    | .run k' _ xs, some r => bif decide (k = k') then some (xs.den ++ r) else none
    | _, _ => none
  | _ => none
/-- The same, where all are literals. -/
def litsOf (k : IntKind) : SV → Option (List Int)
  | .nil => some []
  | .cons h t => match h, litsOf k t with
    | .int k' (.lit n), some r => bif decide (k = k') then some (n :: r) else none
    | _, _ => none
  | _ => none

section
variable {P : Program} {F : Fr} {β : List Nat} {hp : Hp} {w : World} {zt : List (TypeId × SV)} {K : SV → Hp → Prop}

theorem litRow_vals : ∀ l : List UInt8, (litRow l).vals β = l.map fun b => Value.int .u8 b.toNat
  | [] => rfl
  | b :: r => by
    show [Value.int .u8 b.toNat] ++ (litRow r).vals β = _
    rw [litRow_vals r]; rfl
theorem litRow_wf (n : Nat) : ∀ l : List UInt8, (litRow l).wf n
  | [] => trivial
  | b :: r => ⟨trivial, litRow_wf n r⟩
theorem litRow_cells : ∀ l : List UInt8, (litRow l).cells = true
  | [] => rfl
  | b :: r => by simp [litRow, SV.cells, SV.cell, litRow_cells r]

theorem intsD_vals {k : IntKind} : ∀ (r : SV) (ns : List Int), intsD k r = some ns → r.vals β = ns.map (Value.int k) := by
  intro r
  induction r with
  | nil => intro ns h; cases h; rfl
  | cons a t _ iht =>
    intro ns h
    simp only [intsD] at h
    split at h
    · rename_i k' e r hr _
      cases hd : decide (k = k') <;> rw [hd] at h
      · cases h
      · have := of_decide_eq_true hd
        subst this
        cases h
        simp [SV.vals, iht _ hr]
    · rename_i k' n xs r hr _
      cases hd : decide (k = k') <;> rw [hd] at h
      · cases h
      · have := of_decide_eq_true hd
        subst this
        cases h
        simp [SV.vals, iht _ hr]
    · cases h
  | _ => intro ns h; cases h
theorem litsOf_vals {k : IntKind} : ∀ (r : SV) (ns : List Int), litsOf k r = some ns → r.vals β = ns.map (Value.int k) := by
  intro r
  induction r with
  | nil => intro ns h; cases h; rfl
  | cons a t _ iht =>
    intro ns h
    simp only [litsOf] at h
    split at h
    · rename_i k' e r hr _
      cases hd : decide (k = k') <;> rw [hd] at h
      · cases h
      · have := of_decide_eq_true hd
        subst this
        cases h
        simp [SV.vals, iht _ hr, IE.den]
    · cases h
  | _ => intro ns h; cases h

/-! ### What is appended, copied or converted: its cells -/

def mulN (n : NE) (s : Nat) : NE :=
  match n with
  | .lit a => .lit (a * s)
  | .v a => bif Nat.beq s 1 then .v a else .v (a * s)
theorem mulN_den (n : NE) (s : Nat) : (mulN n s).den = n.den * s := by
  cases n
  · rfl
  · simp only [mulN]
    cases h : Nat.beq s 1
    · rfl
    · rw [beq_t h]; simp [NE.den]
def addN (a b : NE) : NE :=
  match a, b with
  | .lit x, .lit y => .lit (x + y)
  | .lit 0, b => b
  | a, .lit 0 => a
  | a, b => .v (a.den + b.den)
theorem addN_den (a b : NE) : (addN a b).den = a.den + b.den := by unfold addN; split <;> simp [NE.den]

/-- A slice's cells out of a row. -/
def rowSrc (l : SV) (off : Off) (len : NE) (s : Nat) (K : SV → Prop) : Prop :=
  match (match off, len with
    | .lit o, .lit n => (match rowCut l o with
      | some (_, b) => (match rowCut b (n * s) with
        | some (c, _) => some c
        | none => none)
      | none => none)
    | _, _ => none) with
  | some c => K c
  | none =>
    match l with
    | .cons (.run k m xs) _ => bif Nat.beq s 1 then
        off.den + len.den ≤ m.den ∧ (off.den + len.den ≤ m.den → ∀ ys : List Int, ys = (xs.den.drop off.den).take len.den → K (.cons (.run k len (.list ys)) .nil))
      else False
    | _ => False

theorem rowSrc_sound {l : SV} {off : Off} {len : NE} {s : Nat} {K : SV → Prop} (hl : l.wf β.length) (h : rowSrc l off len s K) :
    ∃ c pre post, K c ∧ c.wf β.length ∧ l.vals β = pre ++ c.vals β ++ post ∧ pre.length = off.den ∧ (c.vals β).length = len.den * s := by
  unfold rowSrc at h
  split at h
  · rename_i c hc
    split at hc
    · rename_i o n
      split at hc
      · rename_i a b hab
        split at hc
        · rename_i c' d hcd
          cases hc
          obtain ⟨e1, e2, e3, e4⟩ := rowCut_sound β l o _ _ hl hab
          obtain ⟨f1, f2, f3, f4⟩ := rowCut_sound β b _ _ _ e4 hcd
          exact ⟨_, a.vals β, d.vals β, h, f3, by rw [e1, f1]; simp, e2, f2⟩
        · cases hc
      · cases hc
    · cases hc
  · split at h
    · rename_i k m xs t _
      cases hb : Nat.beq s 1 <;> rw [hb] at h
      · exact h.elim
      · have := beq_t hb
        subst this
        obtain ⟨h0, h⟩ := h
        have hlen : xs.den.length = m.den := hl.1
        refine ⟨_, (xs.den.take off.den).map (.int k), (xs.den.drop (off.den + len.den)).map (.int k) ++ t.vals β, h h0 _ rfl, ⟨?_, trivial⟩, ?_, ?_, ?_⟩
        · show ((xs.den.drop off.den).take len.den).length = len.den
          simp; omega
        · show xs.den.map (Value.int k) ++ t.vals β = (xs.den.take off.den).map (Value.int k) ++ (((xs.den.drop off.den).take len.den).map (Value.int k) ++ []) ++ ((xs.den.drop (off.den + len.den)).map (.int k) ++ t.vals β)
          have : xs.den = xs.den.take off.den ++ ((xs.den.drop off.den).take len.den ++ xs.den.drop (off.den + len.den)) := by
            rw [← List.drop_drop, List.take_append_drop, List.take_append_drop]
          conv => lhs; rw [this]
          simp
        · simp; omega
        · show (((xs.den.drop off.den).take len.den).map (Value.int k) ++ []).length = len.den * 1
          simp; omega
    · exact h.elim

/-- The cells of what is appended; how many elements. -/
def xSrc (P : Program) (tx : TypeId) (s : Nat) (x : SV) (hp : Hp) (K : SV → NE → Prop) : Prop :=
  match P.underlying tx, x with
  | some (.slice _), .nilslice => K .nil (.lit 0)
  | some (.slice _), .slice id off len _ => (match getRow id hp with
    | some (l, _, _) => rowSrc l off len s fun c => bif c.cells then K c len else False
    | none => False)
  | some (.slice el), .gsl a len _ => bif Nat.beq s 1 then (match P.underlying el with
      | some (.int k) => ∃ ys : List Int, ys.length = len.den ∧ RdS hp.G a len.den (ys.map (.int k)) ∧ K (.cons (.run k len (.list ys)) .nil) len
      | _ => False)
    else ∃ vs : List Value, vs.length = len.den * s ∧ (∀ v ∈ vs, v.oneCell' = true) ∧ RdS hp.G a len.den vs ∧ K (.cons (.blob (.v (len.den * s)) vs) .nil) len
  | some .string, .str (.lit b) => bif Nat.beq s 1 then K (litRow b.data.toList) (.lit b.size) else False
  | some .string, .str (.v b) => bif Nat.beq s 1 then K (.cons (.run .u8 (.v b.size) (.list (bytesOf b))) .nil) (.v b.size) else False
  | _, _ => False

theorem bytesOf_length (b : ByteArray) : (bytesOf b).length = b.size := by
  unfold bytesOf
  rw [List.length_map, Array.length_toList]
  rfl

/-- What 'xSrc' says. -/
structure SrcOk (P : Program) (β : List Nat) (s : Nat) (tx : TypeId) (x : SV) (w : World) (r : SV) (n : NE) : Prop where
  wf : r.wf β.length
  cells : ∀ v ∈ r.vals β, v.oneCell' = true
  src : Src P s tx (x.val β) n.den (r.vals β) w
  part : ∀ m, m ≤ n.den → (Builtin.firstCells s m (x.val β)).run P w = .ok ((r.vals β).take (m * s)).toArray w

theorem firstCells_part {s n : Nat} {a : Addr} {len cap m : Nat} {cs : List Value} (hl : cs.length = n * s) (h : ∀ j v, cs[j]? = some v → w.cell? (a.add j) = some v) (hm : m ≤ n) :
    (Builtin.firstCells s m (.slice (some a) len cap)).run P w = .ok (cs.take (m * s)).toArray w := by
  have hle : m * s ≤ n * s := Nat.mul_le_mul_right _ hm
  refine run_firstCells_some _ _ _ _ _ _ _ (by rw [List.length_take]; omega) (fun j v hj => h j v ?_)
  have hlt : j < (cs.take (m * s)).length := (List.getElem?_eq_some_iff.1 hj).1
  rw [List.length_take] at hlt
  rw [List.getElem?_take] at hj
  rw [if_pos (by omega)] at hj
  exact hj
theorem firstCells_str (b : ByteArray) (m : Nat) (hm : m ≤ b.size) : (Builtin.firstCells 1 m (.string b)).run P w = .ok ((byteCells b).take (m * 1)).toArray w := by
  simp only [Builtin.firstCells, Sem.run_pure, byteCells]
  congr 1
  apply Array.ext'
  simp

theorem xSrc_sound (hS : Sat F β hp w) {tx : TypeId} {s : Nat} {x : SV} {K : SV → NE → Prop} (h : xSrc P tx s x hp K) : ∃ r n, K r n ∧ SrcOk P β s tx x w r n := by
  unfold xSrc at h
  split at h
  · rename_i el hd
    exact ⟨_, _, h, trivial, (fun v hv => by cases hv), Src.ofNil w hd 0, fun m _ => by simp [SV.val, SV.vals, Builtin.firstCells]⟩
  · rename_i el id off len cap hd
    split at h
    · rename_i l e z hg
      obtain ⟨g1, g2, g3⟩ := hS.row hg
      obtain ⟨c, pre, post, hK, c1, c2, c3, c4⟩ := rowSrc_sound g2 h
      cases hc : c.cells <;> rw [hc] at hK
      · exact hK.elim
      · have hone := SV.cells_sound c1 hc
        have hcell : ∀ j v, (c.vals β)[j]? = some v → w.cell? (Addr.add ⟨blk β id, off.den, none⟩ j) = some v := by
          intro j v hj
          rw [addr_add, cell_of_row g3, c2]
          have hlt : j < (c.vals β).length := (List.getElem?_eq_some_iff.1 hj).1
          simp only [List.getElem?_toArray]
          rw [List.getElem?_append_left (by simp; omega), List.getElem?_append_right (by omega), ← c3]
          simpa using hj
        exact ⟨_, _, hK, c1, hone, Src.ofSlice w hd ⟨blk β id, off.den, none⟩ len.den cap.den (c.vals β) c4 hcell hone, fun m hm => firstCells_part c4 hcell hm⟩
    · exact h.elim
  · rename_i el a len cap hd
    have key : ∀ (r : SV) (vs : List Value), r.wf β.length → r.vals β = vs → (∀ v ∈ vs, v.oneCell' = true) → vs.length = len.den * s → RdS hp.G a len.den vs → SrcOk P β s tx (.gsl a len cap) w r len := by
      intro r vs hw hv hone hl hr
      subst hv
      rcases hr with ⟨h0, hnil⟩ | ⟨b, o, rfl, hr⟩
      · cases a with
        | none =>
          refine ⟨hw, hone, ?_, ?_⟩
          · show Src P s tx (.slice none len.den cap.den) len.den (r.vals β) w
            rw [hnil, h0]
            exact Src.ofNil w hd _
          · intro m hm
            have : m = 0 := by omega
            subst this
            show (Builtin.firstCells s 0 (.slice none len.den cap.den)).run P w = _
            rw [run_firstCells_none]; simp
        | some ad =>
          have hcell : ∀ j v, (r.vals β)[j]? = some v → w.cell? (ad.add j) = some v := fun j v hj => by rw [hnil] at hj; cases hj
          exact ⟨hw, hone, Src.ofSlice w hd ad len.den cap.den (r.vals β) hl hcell hone, fun m hm => firstCells_part hl hcell hm⟩
      · have hcell : ∀ j v, (r.vals β)[j]? = some v → w.cell? (Addr.add ⟨b, o, none⟩ j) = some v := fun j v hj => Rd.cell hS hr hj
        exact ⟨hw, hone, Src.ofSlice w hd ⟨b, o, none⟩ len.den cap.den (r.vals β) hl hcell hone, fun m hm => firstCells_part hl hcell hm⟩
    cases hb : Nat.beq s 1 <;> rw [hb] at h
    · obtain ⟨vs, h1, h2, h3, hK⟩ := h
      exact ⟨_, _, hK, key _ vs ⟨⟨h1, h2⟩, trivial⟩ (by simp [SV.vals]) h2 h1 h3⟩
    · have := beq_t hb
      subst this
      simp only [cond_true] at h
      split at h
      · rename_i k hk
        obtain ⟨ys, h1, h2, hK⟩ := h
        refine ⟨_, _, hK, key _ (ys.map (.int k)) ⟨h1, trivial⟩ (by simp [SV.vals, IL.den]) ?_ (by simp [h1]) h2⟩
        intro v hv
        obtain ⟨y, _, rfl⟩ := List.mem_map.1 hv
        rfl
      · exact h.elim
  · rename_i b hd
    cases hb : Nat.beq s 1 <;> rw [hb] at h
    · exact h.elim
    · have := beq_t hb
      subst this
      have hv : (litRow b.data.toList).vals β = byteCells b := litRow_vals _
      refine ⟨_, _, h, litRow_wf _ _, SV.cells_sound (litRow_wf _ _) (litRow_cells _), ?_, ?_⟩
      · rw [hv]
        exact Src.ofString w hd b
      · rw [hv]
        exact fun m hm => firstCells_str b m hm
  · rename_i b hd
    cases hb : Nat.beq s 1 <;> rw [hb] at h
    · exact h.elim
    · have := beq_t hb
      subst this
      have hv : (SV.cons (.run .u8 (.v b.size) (.list (bytesOf b))) .nil).vals β = byteCells b := by
        show (bytesOf b).map (Value.int .u8) ++ [] = _
        simp [bytesOf, byteCells]
      have hw : (SV.cons (.run .u8 (.v b.size) (.list (bytesOf b))) .nil).wf β.length := ⟨bytesOf_length b, trivial⟩
      refine ⟨_, _, h, hw, SV.cells_sound hw rfl, ?_, ?_⟩
      · rw [hv]
        exact Src.ofString w hd b
      · rw [hv]
        exact fun m hm => firstCells_str b m hm
  · exact h.elim

/-! ### Conversions -/

/-- Conversions that only compute. -/
def xConvP (P : Program) (src dst : TypeId) (x : SV) (K : SV → Prop) : Prop :=
  match P.underlying src, P.underlying dst, x with
  | some _, some (.int k), .int _ e => one1 k.wrap e fun e => K (.int k e)
  | some _, some .string, .str s => K (.str s)
  | some (.slice e), some .string, .nilslice => (match P.underlying e with
    | some (.int .u8) => K (.str (.lit .empty))
    | _ => False)
  | _, _, _ => False
theorem xConvP_sound {src dst : TypeId} {x : SV} {K : SV → Prop} (h : xConvP P src dst x K) :
    ∃ sv, K sv ∧ sv.one = true ∧ sv.wf β.length ∧ ∀ w, (convert src dst (x.val β)).run P w = .ok (sv.val β) w := by
  unfold xConvP at h
  split at h
  · rename_i ds k k' e hs hd
    obtain ⟨e', he, hK⟩ := one1_sound h
    refine ⟨_, hK, rfl, trivial, fun w => ?_⟩
    simp [convert, run_underlying hs, run_underlying hd, val_int, Conv.intToInt, he]
  · rename_i ds s hs hd
    refine ⟨_, h, rfl, trivial, fun w => ?_⟩
    simp only [convert, Sem.run_bind, run_underlying hs, run_underlying hd, Result.andThen_ok, val_str]
    cases ds <;> rfl
  · rename_i e hs hd
    split at h
    · rename_i he
      refine ⟨_, h, rfl, trivial, fun w => ?_⟩
      simp [convert, run_underlying hs, run_underlying hd, run_underlying he, SV.val, SV.vals, Conv.bytesToString, SE.den]
    · exact h.elim
  · exact h.elim

/-- Bytes as a text. -/
def xConvB (P : Program) (src dst : TypeId) (x : SV) (hp : Hp) (K : SV → Prop) : Prop :=
  match P.underlying src, P.underlying dst, x with
  | some (.slice e), some .string, .slice id off len _ => (match P.underlying e, getRow id hp with
    | some (.int .u8), some (l, _, _) => rowSrc l off len 1 fun c => (match litsOf .u8 c with
      | some ns => K (.str (.lit (strOf ns)))
      | none => match intsD .u8 c with
        | some ns => ∀ r : ByteArray, r = strOf ns → K (.str (.v r))
        | none => False)
    | _, _ => False)
  | some (.slice e), some .string, .gsl a len _ => (match P.underlying e with
    | some (.int .u8) => ∃ ys : List Int, ys.length = len.den ∧ RdS hp.G a len.den (ys.map (.int .u8)) ∧ ∀ r : ByteArray, r = strOf ys → K (.str (.v r))
    | _ => False)
  | _, _, _ => False
theorem xConvB_sound (hS : Sat F β hp w) {src dst : TypeId} {x : SV} {K : SV → Prop} (h : xConvB P src dst x hp K) :
    ∃ sv, K sv ∧ sv.one = true ∧ sv.wf β.length ∧ ∀ w', Sat F β hp w' → (convert src dst (x.val β)).run P w' = .ok (sv.val β) w' := by
  unfold xConvB at h
  split at h
  · rename_i e id off len cap hs hd
    split at h
    · rename_i l el z he hg
      obtain ⟨g1, g2, _⟩ := hS.row hg
      obtain ⟨c, pre, post, hK, c1, c2, c3, c4⟩ := rowSrc_sound g2 h
      have key : ∀ ns : List Int, c.vals β = ns.map (Value.int .u8) → ∀ w', Sat F β hp w' → (convert src dst ((SV.slice id off len cap).val β)).run P w' = .ok (.string (strOf ns)) w' := by
        intro ns hns w' hS'
        have g3 := (hS'.row hg).2.2
        show (convert src dst (.slice (some ⟨blk β id, off.den, none⟩) len.den cap.den)).run P w' = _
        rw [run_convert_bytes_string w' src dst e _ _ _ hs he hd]
        refine run_bytesToString w' _ _ _ ns ?_
        have hl : len.den = (ns.map (Value.int .u8)).length := by rw [← hns]; omega
        rw [hl, ← hns]
        exact run_loadCells_row g3 pre (c.vals β) post (by rw [c2]) c3.symm
      split at hK
      · rename_i ns hns
        exact ⟨_, hK, rfl, trivial, key ns (litsOf_vals _ _ hns)⟩
      · split at hK
        · rename_i ns hns
          exact ⟨_, hK _ rfl, rfl, trivial, key ns (intsD_vals _ _ hns)⟩
        · exact hK.elim
    · exact h.elim
  · rename_i e a len cap hs hd
    split at h
    · rename_i he
      obtain ⟨ys, h1, h2, hK⟩ := h
      refine ⟨_, hK _ rfl, rfl, trivial, fun w' hS' => ?_⟩
      show (convert src dst (.slice a len.den cap.den)).run P w' = .ok (.string (strOf ys)) w'
      rcases h2 with ⟨h0, hnil⟩ | ⟨b, o, rfl, hr⟩
      · have : ys = [] := by simpa using hnil
        subst this
        rw [h0]
        cases a with
        | some ad =>
          rw [run_convert_bytes_string w' src dst e _ _ _ hs he hd]
          exact run_bytesToString w' _ _ _ [] (run_loadCells_list w' ad [] fun j v hj => by cases hj)
        | none => simp [convert, run_underlying hs, run_underlying hd, run_underlying he, Conv.bytesToString, strOf]
      · rw [run_convert_bytes_string w' src dst e _ _ _ hs he hd]
        refine run_bytesToString w' _ _ _ ys ?_
        rw [← h1]
        have hl : ys.length = (ys.map (Value.int .u8)).length := by simp
        rw [hl]
        exact run_loadCells_list w' ⟨b, o, none⟩ _ fun j v hj => Rd.cell hS' hr hj
    · exact h.elim
  · exact h.elim
end
end Vx
