/- Structs, arrays, addresses, loads, stores, new memory. -/
import Derived.Test.YtafngdeeachggaaGreatVxOps
set_option linter.unusedVariables false
set_option linter.unusedSimpArgs false
namespace Vx
open Go

section
variable {P : Program} {F : Fr} {β : List Nat} {hp : Hp} {w : World} {K : SV → Hp → Prop}

def aggD (d : TypeDesc) : Bool :=
  match d with
  | .struct _ | .array _ _ => true
  | _ => false
/-- A type's own: is it a struct or an array, and of how many cells. -/
def tyOf (P : Program) (t : TypeId) : Option (Bool × Nat) :=
  match P.underlying t, P.info? t with
  | some d, some i => some (aggD d, i.size)
  | _, _ => none
theorem run_tyOf {t : TypeId} {a : Bool} {n : Nat} (h : tyOf P t = some (a, n)) (w : World) :
    (isAgg t).run P w = .ok a w ∧ (Go.sizeOf t).run P w = .ok n w := by
  unfold tyOf at h
  split at h
  · rename_i d i hd hi
    cases h
    refine ⟨?_, ?_⟩
    · unfold isAgg
      simp only [Sem.run_bind, run_underlying hd, Result.andThen_ok]
      cases d <;> rfl
    · simp [Go.sizeOf, typeInfo, hi]
  · cases h

/-- A part of a row: of a type, at a place. -/
def xPart (P : Program) (t : TypeId) (l : SV) (o : Nat) (i : Option Nat) (K : SV → Prop) : Prop :=
  match tyOf P t with
  | none => False
  | some (a, n) =>
    bif a then
      (match i with
      | some _ => False
      | none => match rowCut l o with
        | none => False
        | some (_, b) => match rowCut b n with
          | none => False
          | some (c, _) => K (.agg c))
    else rowGet l o i K

theorem xPart_sound {t : TypeId} {l : SV} {o : Nat} {i : Option Nat} {K : SV → Prop} (hw : l.wf β.length) (h : xPart P t l o i K) :
    ∃ sv, K sv ∧ sv.one = true ∧ sv.wf β.length ∧ (∀ w, (part t (l.vals β).toArray (o + iD i)).run P w = .ok (sv.val β) w) ∧
      ∃ a n, tyOf P t = some (a, n) ∧ (a = true → ∃ pre mid post, l.vals β = pre ++ mid ++ post ∧ pre.length = o + iD i ∧ mid.length = n ∧ sv.val β = .agg mid.toArray) ∧
        (a = false → (l.vals β)[o + iD i]? = some (sv.val β)) := by
  unfold xPart at h
  split at h
  · exact h.elim
  · rename_i a n ht
    cases a
    · simp only [cond_false] at h
      obtain ⟨sv, h1, h2, h3, h4⟩ := rowGet_sound β l o i K hw h
      refine ⟨sv, h1, h2, h3, fun w => ?_, false, n, ht, (fun h => by cases h), fun _ => h4⟩
      have := (run_tyOf ht w).1
      unfold part
      simp only [Sem.run_bind, this, Result.andThen_ok, Bool.false_eq_true, if_false]
      rw [List.getElem?_toArray, h4]
      rfl
    · simp only [cond_true] at h
      cases i with
      | some i => exact h.elim
      | none =>
        simp only at h
        split at h
        · exact h.elim
        · rename_i x b hb
          split at h
          · exact h.elim
          · rename_i c d hc
            obtain ⟨e1, e2, e3, e4⟩ := rowCut_sound β l o _ _ hw hb
            obtain ⟨f1, f2, f3, f4⟩ := rowCut_sound β b n _ _ e4 hc
            have ht' := ht
            refine ⟨_, h, rfl, f3, fun w => ?_, true, n, ht, fun _ => ⟨x.vals β, c.vals β, d.vals β, by rw [e1, f1]; simp, by simpa [iD] using e2, f2, rfl⟩, (fun h => by cases h)⟩
            have g1 := (run_tyOf ht w).1
            have g2 := (run_tyOf ht w).2
            unfold part
            simp only [Sem.run_bind, g1, g2, Result.andThen_ok, if_true, Sem.run_pure]
            congr 1
            show Value.agg _ = Value.agg _
            congr 1
            rw [e1, f1]
            simp only [iD, Option.getD_none, Nat.add_zero]
            rw [List.extract_toArray]
            congr 1
            rw [List.extract_eq_take_drop]
            simp [← e2, ← f2]

/-- A struct's or an array's cells. -/
def aggOf : SV → Option SV
  | .agg l => some l
  | .opq (.agg cs) => some (ofVs cs.toList)
  | _ => none
theorem aggOf_sound {x l : SV} (h : aggOf x = some l) (hw : x.wf β.length) : x.val β = .agg (l.vals β).toArray ∧ l.wf β.length := by
  unfold aggOf at h
  split at h
  · cases h; exact ⟨rfl, hw⟩
  · cases h
    refine ⟨?_, ofVs_wf _ _⟩
    simp [SV.val, SV.vals, ofVs_vals]
  · cases h

def fieldOf (P : Program) (t : TypeId) (f : Nat) : Option Field :=
  match P.underlying t with
  | some (.struct fs) => fs[f]?
  | _ => none
theorem fieldOf_sound {t : TypeId} {f : Nat} {fd : Field} (h : fieldOf P t f = some fd) : ∃ fs, P.underlying t = some (.struct fs) ∧ fs[f]? = some fd := by
  unfold fieldOf at h
  split at h
  · exact ⟨_, by assumption, h⟩
  · cases h

def xField (P : Program) (t : TypeId) (x : SV) (f : Nat) (K : SV → Prop) : Prop :=
  match fieldOf P t f, aggOf x with
  | some fd, some l => xPart P fd.type l fd.offset none K
  | _, _ => False
theorem xField_sound {t : TypeId} {x : SV} {f : Nat} {K : SV → Prop} (hx : x.wf β.length) (h : xField P t x f K) :
    ∃ sv, K sv ∧ sv.one = true ∧ sv.wf β.length ∧ ∀ w, (Instr.field t (x.val β) f).run P w = .ok (sv.val β) w := by
  unfold xField at h
  split at h
  · rename_i fd l hf hl
    obtain ⟨fs, hd, hfs⟩ := fieldOf_sound hf
    obtain ⟨e1, e2⟩ := aggOf_sound (β := β) hl hx
    obtain ⟨sv, h1, h2, h3, h4, _⟩ := xPart_sound (β := β) e2 h
    refine ⟨sv, h1, h2, h3, fun w => ?_⟩
    unfold Instr.field
    simp only [Sem.run_bind, run_underlying hd, Result.andThen_ok, e1]
    simp only [hfs, asAgg, Sem.run_bind, Sem.run_pure, Result.andThen_ok]
    exact h4 w
  · exact h.elim

/-! ### Addresses -/

def Off.add (o : Off) (n : Nat) : Off :=
  match o with
  | .lit a => .lit (a + n)
  | .at a i => .at (a + n) i
theorem Off.add_den (o : Off) (n : Nat) : (o.add n).den = o.den + n := by
  cases o <;> simp only [Off.add, Off.den] <;> omega
/-- So many times a size behind a place. -/
def Off.idx (o : Off) (e : IE) (s : Nat) : Off :=
  match e with
  | .lit n => o.add (n.toNat * s)
  | .v n => match o with
    | .lit a => .at a (n.toNat * s)
    | .at a i => .at a (i + n.toNat * s)
theorem Off.idx_den (o : Off) (e : IE) (s : Nat) : (o.idx e s).den = o.den + e.den.toNat * s := by
  cases e <;> cases o <;> simp only [Off.idx, Off.add, Off.den, IE.den] <;> omega

def xFieldAddr (P : Program) (t : TypeId) (x : SV) (f : Nat) (K : SV → Prop) : Prop :=
  match fieldOf P t f, x with
  | some fd, .ptr id off =>
    match P.info? fd.type with
    | some i => bif Nat.beq i.size 0 then False else K (.ptr id (off.add fd.offset))
    | none => False
  | some fd, .gptr b o =>
    match P.info? fd.type with
    | some i => bif Nat.beq i.size 0 then False else K (.gptr b (o + fd.offset))
    | none => False
  | _, _ => False
theorem xFieldAddr_sound {t : TypeId} {x : SV} {f : Nat} {K : SV → Prop} (hx : x.wf β.length) (h : xFieldAddr P t x f K) :
    ∃ sv, K sv ∧ sv.one = true ∧ sv.wf β.length ∧ ∀ w, (Instr.fieldAt t (x.val β) f).run P w = .ok (sv.val β) w := by
  unfold xFieldAddr at h
  split at h
  · rename_i fd id off hf
    obtain ⟨fs, hd, hfs⟩ := fieldOf_sound hf
    split at h
    · rename_i i hi
      cases hb : Nat.beq i.size 0 <;> rw [hb] at h
      · refine ⟨_, h, rfl, hx, fun w => ?_⟩
        have h0 := beq_f hb
        unfold Instr.fieldAt
        simp only [Sem.run_bind, run_underlying hd, Result.andThen_ok, hfs, SV.val, SV.vals, List.headD_cons, Instr.sureAddr, Sem.run_pure]
        simp [fieldPlace, Go.sizeOf, typeInfo, hi, h0, addr_add, Off.add_den]
      · exact h.elim
    · exact h.elim
  · rename_i fd b o hf
    obtain ⟨fs, hd, hfs⟩ := fieldOf_sound hf
    split at h
    · rename_i i hi
      cases hb : Nat.beq i.size 0 <;> rw [hb] at h
      · refine ⟨_, h, rfl, trivial, fun w => ?_⟩
        have h0 := beq_f hb
        unfold Instr.fieldAt
        simp only [Sem.run_bind, run_underlying hd, Result.andThen_ok, hfs, SV.val, SV.vals, List.headD_cons, Instr.sureAddr, Sem.run_pure]
        simp [fieldPlace, Go.sizeOf, typeInfo, hi, h0, addr_add]
      · exact h.elim
    · exact h.elim
  · exact h.elim

/-- Is a number a place among so many? -/
def inR (e : IE) (n : NE) (K : Prop) : Prop :=
  match e, n with
  | .lit a, .lit m => bif decide (0 ≤ a ∧ a < (m : Int)) then K else False
  | e, n => (0 ≤ e.den ∧ e.den < (n.den : Int)) ∧ ((0 ≤ e.den ∧ e.den < (n.den : Int)) → K)
theorem inR_sound {e : IE} {n : NE} {K : Prop} (h : inR e n K) : (0 ≤ e.den ∧ e.den < (n.den : Int)) ∧ K := by
  unfold inR at h
  split at h
  · rename_i a m
    cases hd : decide (0 ≤ a ∧ a < (m : Int)) <;> rw [hd] at h
    · exact h.elim
    · exact ⟨of_decide_eq_true hd, h⟩
  · exact ⟨h.1, h.2 h.1⟩

def xIndexAddr (P : Program) (t : TypeId) (x i : SV) (K : SV → Prop) : Prop :=
  match i with
  | .int _ e =>
    (match P.underlying t, x with
    | some (.array n elem), .ptr id off =>
      (match P.info? elem with
      | some inf => inR e (.lit n) (K (.ptr id (off.idx e inf.size)))
      | none => False)
    | some (.slice elem), .slice id off len _ =>
      (match P.info? elem with
      | some inf => inR e len (K (.ptr id (off.idx e inf.size)))
      | none => False)
    | some (.slice elem), .gsl a len _ =>
      (match P.info? elem with
      | some inf => inR e len (∃ b o, a = some ⟨b, o, none⟩ ∧ K (.gptr b (o + e.den.toNat * inf.size)))
      | none => False)
    | _, _ => False)
  | _ => False
theorem xIndexAddr_sound {t : TypeId} {x i : SV} {K : SV → Prop} (hx : x.wf β.length) (h : xIndexAddr P t x i K) :
    ∃ sv, K sv ∧ sv.one = true ∧ sv.wf β.length ∧ ∀ w, (Instr.indexAt t (x.val β) (i.val β)).run P w = .ok (sv.val β) w := by
  unfold xIndexAddr at h
  split at h
  · rename_i k e
    split at h
    · rename_i n elem id off hd
      split at h
      · rename_i inf hi
        obtain ⟨h0, h⟩ := inR_sound h
        refine ⟨_, h, rfl, hx, fun w => ?_⟩
        simp only [NE.den] at h0
        unfold Instr.indexAt
        simp only [SV.val, SV.vals, List.headD_cons, asIntOf, Sem.run_bind, Sem.run_pure, Result.andThen_ok, run_underlying hd, Instr.sureAddr]
        simp [h0, Go.sizeOf, typeInfo, hi, addr_add, Off.idx_den]
      · exact h.elim
    · rename_i elem id off len cap hd
      split at h
      · rename_i inf hi
        obtain ⟨h0, h⟩ := inR_sound h
        refine ⟨_, h, rfl, hx, fun w => ?_⟩
        unfold Instr.indexAt
        simp only [SV.val, SV.vals, List.headD_cons, asIntOf, Sem.run_bind, Sem.run_pure, Result.andThen_ok, run_underlying hd]
        simp [h0, Go.sizeOf, typeInfo, hi, addr_add, Off.idx_den]
      · exact h.elim
    · rename_i elem a len cap hd
      split at h
      · rename_i inf hi
        obtain ⟨h0, b, o, rfl, h2⟩ := inR_sound h
        refine ⟨_, h2, rfl, trivial, fun w => ?_⟩
        unfold Instr.indexAt
        simp only [SV.val, SV.vals, List.headD_cons, asIntOf, Sem.run_bind, Sem.run_pure, Result.andThen_ok, run_underlying hd]
        simp [h0, Go.sizeOf, typeInfo, hi, addr_add]
      · exact h.elim
    · exact h.elim
  · exact h.elim

/-- A byte of a text. -/
def byteAt (s : ByteArray) (i : Int) : Int := ((s.data.toList.getD i.toNat 0).toNat : Int)
def xIndex (P : Program) (t : TypeId) (x i : SV) (K : SV → Prop) : Prop :=
  match i with
  | .int _ e =>
    (match P.underlying t with
    | some (.array n elem) =>
      (match P.info? elem, aggOf x with
      | some inf, some l => inR e (.lit n) (match e with
        | .lit a => xPart P elem l (a.toNat * inf.size) none K
        | .v a => xPart P elem l 0 (some (a.toNat * inf.size)) K)
      | _, _ => False)
    | some .string =>
      (match x with
      | .str s => inR e (match s with | .lit s => .lit s.size | .v s => .v s.size) (match e, s with
        | .lit a, .lit s => K (.int .u8 (.lit (byteAt s a)))
        | e, s => K (.int .u8 (.v (byteAt s.den e.den))))
      | _ => False)
    | _ => False)
  | _ => False
theorem xIndex_sound {t : TypeId} {x i : SV} {K : SV → Prop} (hx : x.wf β.length) (h : xIndex P t x i K) :
    ∃ sv, K sv ∧ sv.one = true ∧ sv.wf β.length ∧ ∀ w, (Instr.index t (x.val β) (i.val β)).run P w = .ok (sv.val β) w := by
  unfold xIndex at h
  split at h
  · rename_i k e
    split at h
    · rename_i n elem hd
      split at h
      · rename_i inf l hi hl
        obtain ⟨h0, h⟩ := inR_sound h
        obtain ⟨e1, e2⟩ := aggOf_sound (β := β) hl hx
        simp only [NE.den] at h0
        have key : ∃ o j, o + iD j = e.den.toNat * inf.size ∧ xPart P elem l o j K := by
          cases e with
          | lit a => exact ⟨_, none, rfl, h⟩
          | v a => exact ⟨0, some (a.toNat * inf.size), by simp [iD, IE.den], h⟩
        obtain ⟨o, j, hoj, h⟩ := key
        obtain ⟨sv, h1, h2, h3, h4, _⟩ := xPart_sound (β := β) e2 h
        refine ⟨sv, h1, h2, h3, fun w => ?_⟩
        unfold Instr.index
        simp only [e1, val_int, asIntOf, Sem.run_bind, Sem.run_pure, Result.andThen_ok, run_underlying hd]
        simp only [h0, and_self, if_true, Sem.run_bind, Go.sizeOf, typeInfo, run_program, Result.andThen_ok, hi, Sem.run_pure]
        rw [← hoj]
        exact h4 w
      · exact h.elim
    · rename_i hd
      split at h
      · rename_i s
        obtain ⟨h0, h⟩ := inR_sound h
        have hs : (0 ≤ e.den ∧ e.den < (s.den.size : Int)) := by cases s <;> exact h0
        have key : ∃ e', e'.den = byteAt s.den e.den ∧ K (.int .u8 e') := by
          cases e <;> cases s <;> exact ⟨_, rfl, h⟩
        obtain ⟨e', he', hK⟩ := key
        refine ⟨_, hK, rfl, trivial, fun w => ?_⟩
        have hlt : e.den.toNat < s.den.size := by omega
        unfold Instr.index
        simp only [val_int, val_str, asIntOf, Sem.run_bind, Sem.run_pure, Result.andThen_ok, run_underlying hd]
        have hget : s.den[e.den.toNat]? = some (s.den.data.toList.getD e.den.toNat 0) := by
          rw [getElem?_pos s.den e.den.toNat hlt]
          congr 1
          have : e.den.toNat < s.den.data.toList.length := by simpa using hlt
          rw [List.getD_eq_getElem?_getD, List.getElem?_eq_getElem this]
          rfl
        simp only [hs, if_true, hget, Sem.run_pure, he', byteAt]
      · exact h.elim
    · exact h.elim
  · exact h.elim

/-! ### Loads and stores -/

def Off.parts : Off → Nat × Option Nat
  | .lit o => (o, none)
  | .at o i => (o, some i)
theorem Off.parts_den (o : Off) : o.parts.1 + iD o.parts.2 = o.den := by cases o <;> rfl

/-- What values of some types are made of. -/
def viewK (P : Program) : Nat → List TypeId → (SV → List Value → Prop) → Prop
  | _, [], K => K .nil []
  | 0, _, _ => False
  | n + 1, t :: r, K => match P.underlying t with
    | some (.int k) => ∃ x : Int, viewK P n r fun row vs => K (.cons (.int k (.v x)) row) (.int k x :: vs)
    | some .bool => ∃ x : Bool, viewK P n r fun row vs => K (.cons (.bool (.v x)) row) (.bool x :: vs)
    | some .string => ∃ x : ByteArray, viewK P n r fun row vs => K (.cons (.str (.v x)) row) (.string x :: vs)
    | some (.slice _) => ∃ (a : Option Addr) (l c : Nat), viewK P n r fun row vs => K (.cons (.gsl a (.v l) (.v c)) row) (.slice a l c :: vs)
    | some (.struct fs) => viewK P n (fs.toList.map (·.type) ++ r) K
    | some (.array m e) => viewK P n (List.replicate m e ++ r) K
    | _ => False
theorem viewK_sound {β : List Nat} : ∀ (n : Nat) (ts : List TypeId) (K : SV → List Value → Prop), viewK P n ts K → ∃ row vs, K row vs ∧ row.wf β.length ∧ row.vals β = vs
  | n, [], K, h => by
    cases n <;> exact ⟨.nil, [], h, trivial, rfl⟩
  | 0, t :: r, K, h => h.elim
  | n + 1, t :: r, K, h => by
    simp only [viewK] at h
    split at h
    · obtain ⟨x, h⟩ := h
      obtain ⟨row, vs, h1, h2, h3⟩ := viewK_sound n r _ h
      exact ⟨_, _, h1, ⟨trivial, h2⟩, by simp [SV.vals, h3, IE.den]⟩
    · obtain ⟨x, h⟩ := h
      obtain ⟨row, vs, h1, h2, h3⟩ := viewK_sound n r _ h
      exact ⟨_, _, h1, ⟨trivial, h2⟩, by simp [SV.vals, h3, BE.den]⟩
    · obtain ⟨x, h⟩ := h
      obtain ⟨row, vs, h1, h2, h3⟩ := viewK_sound n r _ h
      exact ⟨_, _, h1, ⟨trivial, h2⟩, by simp [SV.vals, h3, SE.den]⟩
    · obtain ⟨a, l, c, h⟩ := h
      obtain ⟨row, vs, h1, h2, h3⟩ := viewK_sound n r _ h
      exact ⟨_, _, h1, ⟨trivial, h2⟩, by simp [SV.vals, h3, NE.den]⟩
    · exact viewK_sound n _ _ h
    · exact viewK_sound n _ _ h
    · exact h.elim
def isOne (l : SV) (K : SV → Prop) : Prop :=
  match l with
  | .cons x .nil => bif x.one then K x else False
  | _ => False

def xLoad (P : Program) (t : TypeId) (x : SV) (hp : Hp) (K : SV → Prop) : Prop :=
  match x with
  | .gptr b o => (match tyOf P t with
    | some (a, n) => viewK P 200 [t] fun row vs => Rd hp.G b o vs ∧ bif Nat.beq vs.length n then (bif a then K (.agg row) else isOne row K) else False
    | none => False)
  | .ptr id off => match getRow id hp with
    | some (l, _, _) => xPart P t l off.parts.1 off.parts.2 K
    | none => False
  | _ => False
theorem xLoad_sound (hS : Sat F β hp w) {t : TypeId} {x : SV} {K : SV → Prop} (h : xLoad P t x hp K) :
    ∃ sv, K sv ∧ sv.one = true ∧ sv.wf β.length ∧ ∀ w', Sat F β hp w' → (Instr.loadAt t (x.val β)).run P w' = .ok (sv.val β) w' := by
  unfold xLoad at h
  split at h
  · rename_i b o
    split at h
    · rename_i a n ht
      obtain ⟨row, vs, ⟨hr, h⟩, h2, h3⟩ := viewK_sound (β := β) _ _ _ h
      cases hb : Nat.beq vs.length n <;> rw [hb] at h
      · exact h.elim
      · have hn := beq_t hb
        cases a
        · simp only [cond_true, cond_false] at h
          unfold isOne at h
          split at h
          · rename_i x
            cases hx : x.one <;> rw [hx] at h
            · exact h.elim
            · refine ⟨x, h, hx, h2.1, fun w' hS' => ?_⟩
              have hv : vs[0]? = some (x.val β) := by rw [← h3]; simp [SV.vals, SV.vals_one β hx]
              have hc := Rd.cell hS' hr hv
              rw [addr_add] at hc
              simp only [Nat.add_zero] at hc
              show (Instr.loadAt t (.pointer (some ⟨b, o, none⟩))).run P w' = _
              simp only [Instr.loadAt, Instr.sureAddr, Sem.run_bind, Sem.run_pure, Result.andThen_ok, loadVar, (run_tyOf ht w').1, Bool.false_eq_true, if_false, run_load, hc]
          · exact h.elim
        · refine ⟨_, h, rfl, h2, fun w' hS' => ?_⟩
          show (Instr.loadAt t (.pointer (some ⟨b, o, none⟩))).run P w' = .ok (.agg (row.vals β).toArray) w'
          simp only [Instr.loadAt, Instr.sureAddr, Sem.run_bind, Sem.run_pure, Result.andThen_ok, loadVar, (run_tyOf ht w').1, if_true, (run_tyOf ht w').2]
          rw [← hn, run_loadCells_list w' ⟨b, o, none⟩ vs fun j v hj => Rd.cell hS' hr hj]
          simp [h3]
    · exact h.elim
  · rename_i id off
    split at h
    · rename_i l el z hg
      obtain ⟨g1, g2, g3⟩ := hS.row hg
      obtain ⟨sv, h1, h2, h3, _, a, n, ht, ha, hb⟩ := xPart_sound (β := β) g2 h
      refine ⟨sv, h1, h2, h3, fun w' hS' => ?_⟩
      have g3 := (hS'.row hg).2.2
      rw [Off.parts_den] at ha hb
      simp only [Instr.loadAt, SV.val, SV.vals, List.headD_cons, Instr.sureAddr, Sem.run_bind, Sem.run_pure, Result.andThen_ok, loadVar, (run_tyOf ht w').1]
      cases a
      · simp only [Bool.false_eq_true, if_false, run_load, cell_of_row g3]
        rw [List.getElem?_toArray, hb rfl]
        rfl
      · obtain ⟨pre, mid, post, e1, e2, e3, e4⟩ := ha rfl
        simp only [if_true, Sem.run_bind, (run_tyOf ht w').2, Result.andThen_ok]
        rw [← e3, run_loadCells_row g3 pre mid post (by rw [e1]) e2.symm]
        simp only [Result.andThen_ok, Sem.run_pure]
        rw [← e4]; rfl
    · exact h.elim
  · exact h.elim

/-- A load comes to a value, by what cells hold. -/
def Loads (P : Program) (t : TypeId) (x v : Value) (w : World) : Prop :=
  ∃ b o vs, x = .pointer (some ⟨b, o, none⟩) ∧ (∀ j u, vs[j]? = some u → w.cell? ⟨b, o + j, none⟩ = some u) ∧
    ∃ a n, tyOf P t = some (a, n) ∧ ((a = true ∧ vs.length = n ∧ v = .agg vs.toArray) ∨ (a = false ∧ vs = [v]))
theorem Loads.run {t : TypeId} {x v : Value} (h : Loads P t x v w) : (Instr.loadAt t x).run P w = .ok v w := by
  obtain ⟨b, o, vs, rfl, hc, a, n, ht, h | h⟩ := h
  · obtain ⟨rfl, hn, rfl⟩ := h
    simp only [Instr.loadAt, Instr.sureAddr, Sem.run_bind, Sem.run_pure, Result.andThen_ok, loadVar, (run_tyOf ht w).1, if_true, (run_tyOf ht w).2]
    rw [← hn, run_loadCells_list w ⟨b, o, none⟩ vs fun j v hj => by rw [addr_add]; exact hc j v hj]
    simp
  · obtain ⟨rfl, rfl⟩ := h
    have := hc 0 v rfl
    simp only [Nat.add_zero] at this
    simp only [Instr.loadAt, Instr.sureAddr, Sem.run_bind, Sem.run_pure, Result.andThen_ok, loadVar, (run_tyOf ht w).1, Bool.false_eq_true, if_false, run_load, this]
theorem xLoad_loads {t : TypeId} {x : SV} {K : SV → Prop} (hS : Sat F β hp w) (h : xLoad P t x hp K) :
    ∃ sv, K sv ∧ sv.one = true ∧ sv.wf β.length ∧ ∀ w', Sat F β hp w' → Loads P t (x.val β) (sv.val β) w' := by
  unfold xLoad at h
  split at h
  · rename_i b o
    split at h
    · rename_i a n ht
      obtain ⟨row, vs, ⟨hr, h⟩, h2, h3⟩ := viewK_sound (β := β) _ _ _ h
      have hcell : ∀ w', Sat F β hp w' → ∀ j u, vs[j]? = some u → w'.cell? ⟨b, o + j, none⟩ = some u := fun w' hS' j u hj => by
        rw [← addr_add]; exact Rd.cell hS' hr hj
      cases hb : Nat.beq vs.length n <;> rw [hb] at h
      · exact h.elim
      · have hn := beq_t hb
        cases a
        · simp only [cond_true, cond_false] at h
          unfold isOne at h
          split at h
          · rename_i x
            cases hx : x.one <;> rw [hx] at h
            · exact h.elim
            · refine ⟨x, h, hx, h2.1, fun w' hS' => ⟨b, o, vs, rfl, hcell w' hS', _, _, ht, .inr ⟨rfl, ?_⟩⟩⟩
              rw [← h3]; simp [SV.vals, SV.vals_one β hx]
          · exact h.elim
        · exact ⟨_, h, rfl, h2, fun w' hS' => ⟨b, o, vs, rfl, hcell w' hS', _, _, ht, .inl ⟨rfl, hn, by rw [← h3]; rfl⟩⟩⟩
    · exact h.elim
  · rename_i id off
    split at h
    · rename_i l el z hg
      obtain ⟨g1, g2, g3⟩ := hS.row hg
      obtain ⟨sv, h1, h2, h3, _, a, n, ht, ha, hb⟩ := xPart_sound (β := β) g2 h
      refine ⟨sv, h1, h2, h3, fun w' hS' => ?_⟩
      have g3 := (hS'.row hg).2.2
      rw [Off.parts_den] at ha hb
      cases a
      · refine ⟨blk β id, off.den, [sv.val β], rfl, fun j u hj => ?_, _, _, ht, .inr ⟨rfl, rfl⟩⟩
        match j with
        | 0 =>
          cases hj
          rw [cell_of_row g3, List.getElem?_toArray, Nat.add_zero]
          exact hb rfl
      · obtain ⟨pre, mid, post, e1, e2, e3, e4⟩ := ha rfl
        refine ⟨blk β id, off.den, mid, rfl, fun j u hj => ?_, _, _, ht, .inl ⟨rfl, e3, ?_⟩⟩
        · have hlt : j < mid.length := (List.getElem?_eq_some_iff.1 hj).1
          rw [cell_of_row g3, e1, ← e2]
          simp only [List.getElem?_toArray]
          rw [List.getElem?_append_left (by simp; omega), List.getElem?_append_right (by omega)]
          simpa using hj
        · rw [← e4]
    · exact h.elim
  · exact h.elim

/-- A value of one cell. -/
def SV.cell : SV → Bool
  | .opq v => v.oneCell'
  | .agg _ | .tup _ | .nil | .cons .. | .run .. | .blob .. => false
  | _ => true
def SV.cells : SV → Bool
  | .nil => true
  | .cons h t => (match h with | .run .. | .blob .. => true | h => h.cell) && t.cells
  | _ => false
theorem SV.cell_sound {x : SV} (h : x.cell = true) : (x.val β).oneCell' = true ∧ x.one = true := by
  cases x <;> first | exact ⟨rfl, rfl⟩ | exact ⟨h, rfl⟩ | cases h
theorem SV.cells_sound {x : SV} (hw : x.wf β.length) (h : x.cells = true) : ∀ v ∈ x.vals β, v.oneCell' = true := by
  induction x with
  | cons a b _ ihb =>
    simp only [SV.cells, Bool.and_eq_true] at h
    intro v hv
    rcases List.mem_append.1 hv with hv | hv
    · cases a with
      | run k n xs =>
        obtain ⟨i, _, rfl⟩ := List.mem_map.1 hv
        rfl
      | blob n vs => exact hw.1.2 v hv
      | _ =>
        obtain ⟨h1, h2⟩ := SV.cell_sound (β := β) h.1
        rw [SV.vals_one β h2] at hv
        obtain rfl := List.mem_singleton.1 hv
        exact h1
    · exact ihb hw.2 h.2 v hv
  | nil => intro v hv; cases hv
  | _ => cases h

def xStore (P : Program) (t : TypeId) (a x : SV) (hp : Hp) (K : Hp → Prop) : Prop :=
  match a with
  | .ptr id off => match ownRow id hp with
    | some (l, el, z) => match tyOf P t with
      | none => False
      | some (ag, n) =>
        bif ag then
          (match off, aggOf x with
          | .lit o, some r => match rowCut l o with
            | none => False
            | some (p, q) => match rowCut q n with
              | none => False
              | some (_, s) => match r.wid with
                | none => False
                | some m => bif Nat.beq m n && r.cells then K { hp with H := setH id (.cells (p.app (r.app s)) el z) hp.H } else False
          | _, _ => False)
        else bif x.cell && Nat.beq n 1 then rowSet l off.parts.1 off.parts.2 x fun l' => K { hp with H := setH id (.cells l' el z) hp.H } else False
    | none => False
  | _ => False
theorem xStore_sound (hS : Sat F β hp w) {t : TypeId} {a x : SV} {K : Hp → Prop} (hx : x.wf β.length) (h : xStore P t a x hp K) :
    ∃ hp' w', (Instr.storeAt t (a.val β) (x.val β)).run P w = .ok () w' ∧ Sat F β hp' w' ∧ K hp' := by
  unfold xStore at h
  split at h
  · rename_i id off
    split at h
    · rename_i l el z hg
      obtain ⟨g1, g2, g3⟩ := hS.row (ownRow_row hg)
      have hown := ownRow_get hg
      split at h
      · exact h.elim
      · rename_i ag n ht
        have hsz := (run_tyOf ht w).2
        cases ag
        · simp only [cond_false] at h
          cases hc : (x.cell && Nat.beq n 1) <;> rw [hc] at h
          · exact h.elim
          · simp only [cond_true] at h
            simp only [Bool.and_eq_true] at hc
            obtain ⟨c1, c2⟩ := SV.cell_sound (β := β) hc.1
            have hn := beq_t hc.2
            subst hn
            obtain ⟨l', k1, k2, k3, k4⟩ := rowSet_sound β x c2 hx l _ _ _ g2 h
            rw [Off.parts_den] at k3 k4
            have hcells : (x.val β).cells = #[x.val β] := by
              cases hv : x.val β <;> first | rfl | (rw [hv] at c1; cases c1)
            have hsplit : l.vals β = (l.vals β).take off.den ++ [(l.vals β)[off.den]] ++ (l.vals β).drop (off.den + 1) := by
              rw [List.append_assoc, List.singleton_append, List.getElem_cons_drop, List.take_append_drop]
            obtain ⟨w', r1, r2, r3, r4⟩ := run_storeCells_row (P := P) [x.val β] 0 w (blk β id) off.den el ((l.vals β).take off.den) [(l.vals β)[off.den]] ((l.vals β).drop (off.den + 1)) z
              (by rw [← hsplit]; exact g3) (by simp; omega) rfl (by intro v hv; rw [List.mem_singleton.1 hv]; exact c1)
            have hnew : (l.vals β).take off.den ++ [x.val β] ++ (l.vals β).drop (off.den + 1) = l'.vals β := by
              rw [k3, List.set_eq_take_append_cons_drop]
              simp [k4]
            rw [hnew] at r2
            refine ⟨_, w', ?_, hS.set hown (o' := .cells l' el z) k2 r4 r2 r3, k1⟩
            have hp0 : (SV.ptr id off).val β = .pointer (some ⟨blk β id, off.den, none⟩) := rfl
            rw [hp0]
            simp only [Instr.storeAt, Instr.sureAddr, Sem.run_bind, Sem.run_pure, Result.andThen_ok, storeVar, hsz, hcells]
            simp only [List.size_toArray, List.length_cons, List.length_nil, Nat.zero_add, ne_eq, not_true_eq_false, if_false]
            exact r1
        · simp only [cond_true] at h
          split at h
          · rename_i o r hr
            split at h
            · exact h.elim
            · rename_i p q hpq
              split at h
              · exact h.elim
              · rename_i m s hms
                split at h
                · exact h.elim
                · rename_i wd hwd
                  cases hc : (Nat.beq wd n && r.cells) <;> rw [hc] at h
                  · exact h.elim
                  · simp only [cond_true] at h
                    simp only [Bool.and_eq_true] at hc
                    have hn := beq_t hc.1
                    subst hn
                    obtain ⟨a1, a2⟩ := aggOf_sound (β := β) hr hx
                    obtain ⟨e1, e2, e3, e4⟩ := rowCut_sound β l o _ _ g2 hpq
                    obtain ⟨f1, f2, f3, f4⟩ := rowCut_sound β q wd _ _ e4 hms
                    have hlen := SV.wid_len β r a2 wd hwd
                    have hall : l.vals β = p.vals β ++ m.vals β ++ s.vals β := by rw [e1, f1]; simp
                    obtain ⟨w', r1, r2, r3, r4⟩ := run_storeCells_row (P := P) (r.vals β) 0 w (blk β id) o el (p.vals β) (m.vals β) (s.vals β) z
                      (by rw [← hall]; exact g3) (by omega) (by omega) (SV.cells_sound a2 hc.2)
                    have hnew : p.vals β ++ r.vals β ++ s.vals β = (p.app (r.app s)).vals β := by simp [SV.app_vals]
                    rw [hnew] at r2
                    refine ⟨_, w', ?_, hS.set hown (o' := .cells (p.app (r.app s)) el z) (SV.app_wf _ _ _ e3 (SV.app_wf _ _ _ a2 f4)) r4 r2 r3, h⟩
                    simp only [Instr.storeAt, Instr.sureAddr, Sem.run_bind, Sem.run_pure, Result.andThen_ok, storeVar, hsz, SV.vals, a1, Value.cells]
                    simp only [SV.val, SV.vals, List.headD_cons, Instr.sureAddr, Sem.run_bind, Sem.run_pure, Result.andThen_ok, List.size_toArray, hlen, ne_eq, not_true_eq_false, if_false, hsz, Off.den]
                    exact r1
          · exact h.elim
    · exact h.elim
  · exact h.elim
end
end Vx
