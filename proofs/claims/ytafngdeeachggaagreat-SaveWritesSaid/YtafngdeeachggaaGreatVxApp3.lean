/- append and copy. -/
import Derived.Test.YtafngdeeachggaaGreatVxApp2
set_option linter.unusedVariables false
set_option linter.unusedSimpArgs false
namespace Vx
open Go

section
variable {P : Program} {F : Fr} {β : List Nat} {hp : Hp} {w : World} {zt : List (TypeId × SV)} {K : SV → Hp → Prop}

/-- The new row of an append that grows. -/
def growK (olds r : SV) (len n : NE) (s : Nat) (el : TypeId) (hp : Hp) (K : SV → Hp → Prop) : Prop :=
  ∀ (c : Nat) (vs : List Value), (addN len n).den ≤ c → vs.length = (c - (addN len n).den) * s → (∀ v ∈ vs, v.oneCell' = true) →
    newRowK (olds.app (r.app (.cons (.blob (.v ((c - (addN len n).den) * s)) vs) .nil))) el hp K (fun b => .slice b (.lit 0) (addN len n) (.v c))

theorem grow_sound (hz : ZOk P zt) (hS : Sat F β hp w) {t tx ty el : TypeId} {inf : TypeInfo} {z : SV} (hd : P.underlying t = some (.slice el)) (hinf : P.info? el = some inf)
    (hr : zrow P zt el = some z) (hzc : (z.cells && (match z.wid with | some m => Nat.beq m inf.size | none => false)) = true)
    {base : Option Addr} {olds r : SV} {len n : NE} {cap : Nat} {x : SV} (hsrc : SrcOk P β inf.size tx x w r n) (ho : olds.wf β.length)
    (hold : (Builtin.firstCells inf.size len.den (.slice base len.den cap)).run P w.drew = .ok (olds.vals β).toArray w.drew)
    (hg : cap < len.den + n.den) (hfit : (len.den + n.den) * inf.bytes ≤ 140737488355328) (h63 : len.den + n.den ≤ 9223372036854775807) (hK : growK olds r len n inf.size el hp K) :
    Runs P F β w (Builtin.append_ #[t, tx] ty #[.slice base len.den cap, x.val β]) K := by
  obtain ⟨i, zv, hi, hzz, h1, h2⟩ := zrow_sound (β := β) hz hr
  obtain rfl : inf = i := by rw [hinf] at hi; exact Option.some.inj hi
  simp only [Bool.and_eq_true] at hzc
  have hzsz := zsize h1 h2 hzc.2
  have hone := SV.cells_sound h1 hzc.1
  have hrun := run_append_grow_src (P := P) w t tx ty el inf zv hd hinf hzz base len.den cap (olds.vals β) hold (x.val β) n.den (r.vals β) hsrc.src hg (by omega) (growslice_fits hg hfit)
  have hge := grownCap_ge w (len.den + n.den) cap el
  have hzero : (Builtin.zeroCells zv.cells (grownCap w (len.den + n.den) cap el - (len.den + n.den))).toList = repL (z.vals β) (grownCap w (len.den + n.den) cap el - (len.den + n.den)) := by
    have := madeCells_repL zv.cells (grownCap w (len.den + n.den) cap el - (len.den + n.den))
    unfold madeCells at this
    unfold Builtin.zeroCells
    rw [this, h2]
  have hlen : (repL (z.vals β) (grownCap w (len.den + n.den) cap el - (len.den + n.den))).length = (grownCap w (len.den + n.den) cap el - (addN len n).den) * inf.size := by
    rw [repL_length, h2, addN_den]; simp [hzsz]
  have hK' := hK _ _ (by rw [addN_den]; exact hge) hlen (oneCell_mem_repL hone _)
  have hwf : (olds.app (r.app (.cons (.blob (.v ((grownCap w (len.den + n.den) cap el - (addN len n).den) * inf.size)) (repL (z.vals β) (grownCap w (len.den + n.den) cap el - (len.den + n.den)))) .nil))).wf β.length :=
    SV.app_wf _ _ _ ho (SV.app_wf _ _ _ hsrc.wf ⟨⟨by rw [NE_v]; exact hlen, oneCell_mem_repL hone _⟩, trivial⟩)
  refine ⟨_, _, hrun, ?_⟩
  have hy := yld_new (hS.drew (w.drawn + 1)) hwf el (fun b => .slice b (.lit 0) (addN len n) (.v (grownCap w (len.den + n.den) cap el))) rfl (Nat.lt_succ_self _) hK' (v := .slice (some ⟨w.heap.size, 0, none⟩) (len.den + n.den) (grownCap w (len.den + n.den) cap el)) (fun γ hγ => by
    simp only at hγ
    simp [SV.val, SV.vals, hγ, Off.den, addN_den, NE_v])
  have hrows : ((olds.vals β ++ r.vals β).toArray ++ Builtin.zeroCells zv.cells (grownCap w (len.den + n.den) cap el - (len.den + n.den))) =
      ((olds.app (r.app (.cons (.blob (.v ((grownCap w (len.den + n.den) cap el - (addN len n).den) * inf.size)) (repL (z.vals β) (grownCap w (len.den + n.den) cap el - (len.den + n.den)))) .nil))).vals β).toArray := by
    apply Array.ext'
    simp [SV.app_vals, SV.vals, hzero]
  rw [hrows]
  exact hy

/-- An append that has room: the cells are stored behind the length. -/
theorem room_sound (hS : Sat F β hp w) {t tx ty el : TypeId} {inf : TypeInfo} (hd : P.underlying t = some (.slice el)) (hinf : P.info? el = some inf)
    {id : Nat} {off : Off} {len n cap : NE} {x r : SV} (hsrc : SrcOk P β inf.size tx x w r n) {l : SV} {el' : TypeId} {z : Bool} (hown : getH id hp.H = some (.cells l el' z))
    {pre old post : List Value} (hl : l.vals β = pre ++ old ++ post) (hpre : pre.length = off.den + len.den * inf.size) (hold : old.length = n.den * inf.size) (hroom : len.den + n.den ≤ cap.den) :
    ∃ w', (Builtin.append_ #[t, tx] ty #[.slice (some ⟨blk β id, off.den, none⟩) len.den cap.den, x.val β]).run P w = .ok (.slice (some ⟨blk β id, off.den, none⟩) (len.den + n.den) cap.den) w' ∧
      w'.heap[blk β id]? = some (.cells (pre ++ r.vals β ++ post).toArray el' (fzOf z (pre ++ r.vals β ++ post).length)) ∧ (∀ b', b' ≠ blk β id → w'.heap[b']? = w.heap[b']?) ∧
      w'.tape = w.tape ∧ w'.os = w.os ∧ w'.output = w.output := by
  obtain ⟨g1, g2, g3⟩ := hS.get (o := .cells l el' z) (id := id) (by unfold getB; rw [hown])
  simp only [SObj.den] at g3
  have hnl := hsrc.src.newsLen
  rw [hl] at g3
  obtain ⟨w', r1, r2, r3, r4⟩ := run_storeCells_row (P := P) (r.vals β) 0 w (blk β id) (off.den + len.den * inf.size) el' pre old post z g3 (by omega) (by omega) hsrc.cells
  have hc : ∀ j, j < (r.vals β).length → (w.cell? ⟨blk β id, off.den + len.den * inf.size + j, none⟩).isSome = true := fun j hj => by
    rw [cell_of_row g3]
    simp
    omega
  have hf : ∀ j, j < (r.vals β).length → w.frozen? ⟨blk β id, off.den + len.den * inf.size + j, none⟩ = false := fun j hj => by
    cases z <;> simp [World.frozen?, g3, fzOf] <;> omega
  have hrun := run_append_room_src (P := P) w t tx ty el inf hd hinf (blk β id) off.den len.den cap.den (x.val β) n.den (r.vals β) hsrc.src hroom hc hf
  have hst := run_storeCells_cells (P := P) (blk β id) (off.den + len.den * inf.size) (r.vals β) 0 w (by simpa using hc) (by simpa using hf) hsrc.cells
  simp only [Nat.add_zero] at hst
  have heq : w' = w.setCells (blk β id) (off.den + len.den * inf.size) (r.vals β) := by
    rw [hst] at r1
    cases r1; rfl
  exact ⟨w', by rw [hrun, heq], r2, r3, r4⟩

/-- Is there room for sure; is there none for sure? -/
inductive Room where
  | yes
  | no
  | may
def roomOf (need cap : NE) : Room :=
  match need, cap with
  | .lit a, .lit b => bif Nat.ble a b then .yes else .no
  | _, _ => .may
theorem roomOf_yes {need cap : NE} (h : roomOf need cap = .yes) : need.den ≤ cap.den := by
  unfold roomOf at h
  split at h
  · rename_i a b
    cases hb : Nat.ble a b <;> rw [hb] at h
    · cases h
    · exact Nat.le_of_ble_eq_true hb
  · cases h
theorem roomOf_no {need cap : NE} (h : roomOf need cap = .no) : cap.den < need.den := by
  unfold roomOf at h
  split at h
  · rename_i a b
    cases hb : Nat.ble a b <;> rw [hb] at h
    · have : ¬ a ≤ b := fun h' => by rw [Nat.ble_eq_true_of_le h'] at hb; cases hb
      simp only [NE.den]; omega
    · cases h
  · cases h

def offN (o : Off) : NE :=
  match o with
  | .lit a => .lit a
  | .at a i => .v (a + i)
theorem offN_den (o : Off) : (offN o).den = o.den := by cases o <;> rfl

/-- A row with some cells in the place of as many behind a place. -/
def rowOver (l r : SV) (o n : NE) (K : SV → Prop) : Prop :=
  match (match o, n with
    | .lit o, .lit n => (match rowCut l o with
      | some (p, q) => (match rowCut q n with
        | some (_, s) => some (p.app (r.app s))
        | none => none)
      | none => none)
    | _, _ => none) with
  | some l' => K l'
  | none => match cutBlob l with
    | some (p, m, vs) => eqN p.widN o <| leN n m <| K (p.app (r.app (.cons (.blob (subN m n) (vs.drop n.den)) .nil)))
    | none => False
theorem rowOver_sound {l r : SV} {o n : NE} {K : SV → Prop} (hl : l.wf β.length) (hr : r.wf β.length) (h : rowOver l r o n K) :
    ∃ l' pre old post, K l' ∧ l'.wf β.length ∧ l.vals β = pre ++ old ++ post ∧ l'.vals β = pre ++ r.vals β ++ post ∧ pre.length = o.den ∧ old.length = n.den := by
  unfold rowOver at h
  split at h
  · rename_i l' hc
    split at hc
    · rename_i o n
      split at hc
      · rename_i p q hpq
        split at hc
        · rename_i m s hms
          cases hc
          obtain ⟨e1, e2, e3, e4⟩ := rowCut_sound β l o _ _ hl hpq
          obtain ⟨f1, f2, f3, f4⟩ := rowCut_sound β q n _ _ e4 hms
          exact ⟨_, p.vals β, m.vals β, s.vals β, h, SV.app_wf _ _ _ e3 (SV.app_wf _ _ _ hr f4), by rw [e1, f1]; simp, by simp [SV.app_vals], e2, f2⟩
        · cases hc
      · cases hc
    · cases hc
  · split at h
    · rename_i p m vs hb
      obtain ⟨b1, b2, b3, b4⟩ := cutBlob_sound l p m vs hl hb
      obtain ⟨c1, h⟩ := eqN_sound h
      obtain ⟨c2, h⟩ := leN_sound h
      have hw := SV.widN_len (β := β) p b2
      refine ⟨_, p.vals β, vs.take n.den, vs.drop n.den, h, SV.app_wf _ _ _ b2 (SV.app_wf _ _ _ hr ⟨⟨by rw [subN_den]; simp; omega, fun v hv => b4 v (List.mem_of_mem_drop hv)⟩, trivial⟩), ?_, by simp [SV.app_vals, SV.vals], by omega, by simp; omega⟩
      rw [b1, List.append_assoc, List.take_append_drop]
    · exact h.elim

def appFit (len n : NE) (inf : TypeInfo) (K : Prop) : Prop :=
  leN (mulN (addN len n) inf.bytes) (.lit 140737488355328) <| leN (addN len n) (.lit 9223372036854775807) K
theorem appFit_sound {len n : NE} {inf : TypeInfo} {K : Prop} (h : appFit len n inf K) : (len.den + n.den) * inf.bytes ≤ 140737488355328 ∧ len.den + n.den ≤ 9223372036854775807 ∧ K := by
  obtain ⟨h1, h⟩ := leN_sound h
  obtain ⟨h2, h⟩ := leN_sound h
  rw [mulN_den, addN_den, NE_lit] at h1
  rw [addN_den, NE_lit] at h2
  exact ⟨h1, h2, h⟩

/-- The room behind a row: a blob at its end, or none. -/
def cutRoom (l : SV) : Option (SV × NE × List Value) :=
  match cutBlob l with
  | some x => some x
  | none => some (l, .lit 0, [])
theorem cutRoom_sound (l p : SV) (n : NE) (vs : List Value) (hw : l.wf β.length) (h : cutRoom l = some (p, n, vs)) :
    l.vals β = p.vals β ++ vs ∧ p.wf β.length ∧ vs.length = n.den ∧ ∀ v ∈ vs, v.oneCell' = true := by
  unfold cutRoom at h
  split at h
  · rename_i x hx
    cases h
    exact cutBlob_sound l p n vs hw hx
  · cases h
    exact ⟨by simp, hw, rfl, fun v hv => by cases hv⟩
def xAppendTo (r : SV) (n : NE) (inf : TypeInfo) (el : TypeId) (s : SV) (hp : Hp) (K : SV → Hp → Prop) : Prop :=
  match s with
  | .nilslice => (match n with
    | .lit 0 => K .nilslice hp
    | .lit (m + 1) => appFit (.lit 0) (.lit (m + 1)) inf <| growK .nil r (.lit 0) (.lit (m + 1)) inf.size el hp K
    | .v m => (m = 0 → K .nilslice hp) ∧ (m ≠ 0 → appFit (.lit 0) (.v m) inf (growK .nil r (.lit 0) (.v m) inf.size el hp K)))
  | .slice id off len cap =>
    (match roomOf (addN len n) cap with
    | .yes => (match ownRow id hp with
      | some (l, e, z) => rowOver l r (addN (offN off) (mulN len inf.size)) (mulN n inf.size) fun l' =>
          K (.slice id off (addN len n) cap) { hp with H := setH id (.cells l' e z) hp.H }
      | none => False)
    | .no => (match getRow id hp with
      | some (l, _, _) => appFit len n inf <| rowSrc l off len inf.size fun olds => growK olds r len n inf.size el hp K
      | none => False)
    | .may => (match ownRow id hp, off with
      | some (l, e, false), .lit 0 => (match cutRoom l with
        | some (p, m, _) => bif Nat.beq e el then appFit len n inf <| eqN p.widN (mulN len inf.size) <| eqN m (mulN (subN cap len) inf.size) <| leN len cap <|
            ∀ (c : Nat) (vs : List Value), (addN len n).den ≤ c → vs.length = (c - (addN len n).den) * inf.size → (∀ v ∈ vs, v.oneCell' = true) →
              K (.slice hp.n (.lit 0) (addN len n) (.v c)) { hp with n := hp.n + 1, H := (hp.n, some (.cells (p.app (r.app (.cons (.blob (.v ((c - (addN len n).den) * inf.size)) vs) .nil))) el false)) :: delH id hp.H }
          else False
        | none => False)
      | _, _ => False))
  | _ => False

def xAppend (P : Program) (zt : List (TypeId × SV)) (t tx : TypeId) (s x : SV) (hp : Hp) (K : SV → Hp → Prop) : Prop :=
  match P.underlying t with
  | some (.slice el) => (match P.info? el, zrow P zt el with
    | some inf, some z => bif z.cells && (match z.wid with | some m => Nat.beq m inf.size | none => false) then
        xSrc P tx inf.size x hp fun r n => xAppendTo r n inf el s hp K
      else False
    | _, _ => False)
  | _ => False

theorem xAppend_sound (hz : ZOk P zt) (hS : Sat F β hp w) {t tx ty : TypeId} {s x : SV} (hs : s.wf β.length) (h : xAppend P zt t tx s x hp K) :
    Runs P F β w (Builtin.append_ #[t, tx] ty #[s.val β, x.val β]) K := by
  unfold xAppend at h
  split at h
  · rename_i el hd
    split at h
    · rename_i inf z hinf hr
      cases hzc : (z.cells && (match z.wid with | some m => Nat.beq m inf.size | none => false)) <;> rw [hzc] at h
      · exact h.elim
      · simp only [cond_true] at h
        obtain ⟨r, n, h, hsrc⟩ := xSrc_sound hS h
        unfold xAppendTo at h
        split at h
        · have growN : n.den ≠ 0 → appFit (.lit 0) n inf (growK .nil r (.lit 0) n inf.size el hp K) → Runs P F β w (Builtin.append_ #[t, tx] ty #[(SV.nilslice).val β, x.val β]) K := by
            intro hn0 h
            obtain ⟨f1, f2, h⟩ := appFit_sound h
            exact grow_sound hz hS hd hinf hr hzc (base := none) (olds := .nil) (len := .lit 0) (cap := 0) hsrc trivial (run_firstCells_none _ _ _ _ _) (by rw [NE_lit]; omega) f1 f2 h
          have nilN : n.den = 0 → K .nilslice hp → Runs P F β w (Builtin.append_ #[t, tx] ty #[(SV.nilslice).val β, x.val β]) K := by
            intro hn0 h
            have hcell : (r.vals β) = [] := List.eq_nil_of_length_eq_zero (by have := hsrc.src.newsLen; rw [hn0] at this; simpa using this)
            have hsc := hsrc.src
            rw [hn0, hcell] at hsc
            refine runs_pure hS (sv := .nilslice) (v := .slice none 0 0) ?_ rfl trivial rfl h
            show (Builtin.append_ #[t, tx] ty #[.slice none 0 0, x.val β]).run P w = _
            have hl := hsc.len w
            have hcl := hsc.cells
            rcases hsc.kind with ⟨e', hk⟩ | hk <;>
              simp [Builtin.append_, run_underlying hd, run_underlying hk, Go.sizeOf, typeInfo, hinf, hl, hcl]
          split at h
          · exact nilN rfl h
          · rename_i m
            exact growN (by simp [NE.den]) h
          · rename_i m
            by_cases hm : m = 0
            · exact nilN hm (h.1 hm)
            · exact growN hm (h.2 hm)
        · rename_i id off len cap _
          have hv : (SV.slice id off len cap).val β = .slice (some ⟨blk β id, off.den, none⟩) len.den cap.den := rfl
          rw [hv]
          split at h
          · rename_i hroom
            have hroom := roomOf_yes hroom
            rw [addN_den] at hroom
            split at h
            · rename_i l e z' hg
              have hown := ownRow_get hg
              obtain ⟨g1, g2, g3⟩ := hS.row (ownRow_row hg)
              obtain ⟨l', pre, old, post, hK, k1, k2, k3, k4, k5⟩ := rowOver_sound g2 hsrc.wf h
              rw [addN_den, offN_den, mulN_den] at k4
              rw [mulN_den] at k5
              obtain ⟨w', r1, r2, r3, r4⟩ := room_sound hS (ty := ty) hd hinf hsrc hown k2 k4 k5 hroom
              rw [← k3] at r2
              exact ⟨_, w', r1, [], _, _, by simpa using hS.set hown (o' := .cells l' e z') k1 r4 r2 r3, rfl, (by rw [List.append_nil]; exact hs), by simp [SV.val, SV.vals, addN_den], hK⟩
            · exact h.elim
          · rename_i hroom
            have hroom := roomOf_no hroom
            rw [addN_den] at hroom
            split at h
            · rename_i l e z' hg
              obtain ⟨f1, f2, h⟩ := appFit_sound h
              obtain ⟨g1, g2, g3⟩ := hS.row hg
              obtain ⟨olds, pre, post, hK, c1, c2, c3, c4⟩ := rowSrc_sound g2 h
              refine grow_sound hz hS hd hinf hr hzc (base := some ⟨blk β id, off.den, none⟩) (olds := olds) hsrc c1 ?_ hroom f1 f2 hK
              refine run_firstCells_some _ _ _ _ _ _ _ c4 (fun j v hj => ?_)
              have g3' : w.drew.heap[blk β id]? = some (.cells (l.vals β).toArray e (fzOf z' (l.vals β).length)) := g3
              rw [addr_add, cell_of_row g3', c2]
              have hlt : j < (olds.vals β).length := (List.getElem?_eq_some_iff.1 hj).1
              simp only [List.getElem?_toArray]
              rw [List.getElem?_append_left (by simp; omega), List.getElem?_append_right (by omega), ← c3]
              simpa using hj
            · exact h.elim
          · split at h
            · rename_i l e hg _
              have hown := ownRow_get hg
              obtain ⟨g1, g2, g3⟩ := hS.row (ownRow_row hg)
              split at h
              · rename_i p m vs hb
                cases he : Nat.beq e el <;> rw [he] at h
                · exact h.elim
                · have := beq_t he
                  subst this
                  simp only [cond_true] at h
                  obtain ⟨f1, f2, h⟩ := appFit_sound h
                  obtain ⟨c1, h⟩ := eqN_sound h
                  obtain ⟨c2, h⟩ := eqN_sound h
                  obtain ⟨c3, h⟩ := leN_sound h
                  obtain ⟨b1, b2, b3, b4⟩ := cutRoom_sound l p m vs g2 hb
                  have hwid := SV.widN_len (β := β) p b2
                  rw [mulN_den] at c1
                  rw [mulN_den, subN_den] at c2
                  by_cases hroom : len.den + n.den ≤ cap.den
                  · have hsplit : vs = vs.take (n.den * inf.size) ++ vs.drop (n.den * inf.size) := (List.take_append_drop _ _).symm
                    have hmul : n.den * inf.size ≤ (cap.den - len.den) * inf.size := Nat.mul_le_mul_right _ (by omega)
                    obtain ⟨w', r1, r2, r3, r4⟩ := room_sound hS (ty := ty) hd hinf hsrc hown (off := .lit 0) (len := len) (cap := cap) (pre := p.vals β) (old := vs.take (n.den * inf.size)) (post := vs.drop (n.den * inf.size))
                      (by rw [b1, List.append_assoc, ← hsplit]) (by simp [Off.den]; omega) (by simp; omega) hroom
                    have hlen : (vs.drop (n.den * inf.size)).length = (cap.den - (addN len n).den) * inf.size := by
                      rw [addN_den, List.length_drop, b3, c2, ← Nat.sub_mul]
                      congr 1; omega
                    have hone : ∀ v ∈ vs.drop (n.den * inf.size), v.oneCell' = true := fun v hv => b4 v (List.mem_of_mem_drop hv)
                    have hK := h cap.den (vs.drop (n.den * inf.size)) (by rw [addN_den]; exact hroom) hlen hone
                    have hwf : (p.app (r.app (.cons (.blob (.v ((cap.den - (addN len n).den) * inf.size)) (vs.drop (n.den * inf.size))) .nil))).wf β.length :=
                      SV.app_wf _ _ _ b2 (SV.app_wf _ _ _ hsrc.wf ⟨⟨by rw [NE_v]; exact hlen, hone⟩, trivial⟩)
                    have hrow : p.vals β ++ r.vals β ++ vs.drop (n.den * inf.size) = (p.app (r.app (.cons (.blob (.v ((cap.den - (addN len n).den) * inf.size)) (vs.drop (n.den * inf.size))) .nil))).vals β := by
                      simp [SV.app_vals, SV.vals]
                    rw [hrow] at r2
                    have hn := hS.n
                    refine ⟨_, w', r1, [blk β id], _, _, hS.move hown (o' := .cells _ e false) hwf r4 r2 r3, rfl, by simp [SV.wf, hn], ?_, hK⟩
                    simp [SV.val, SV.vals, blk, hn, Off.den, addN_den, NE_v]
                  · have hold : (Builtin.firstCells inf.size len.den (.slice (some ⟨blk β id, 0, none⟩) len.den cap.den)).run P w.drew = .ok (p.vals β).toArray w.drew := by
                      refine run_firstCells_some _ _ _ _ _ _ _ (by omega) (fun j v hj => ?_)
                      have g3' : w.drew.heap[blk β id]? = some (.cells (l.vals β).toArray e (fzOf false (l.vals β).length)) := g3
                      rw [addr_add, cell_of_row g3', b1]
                      have hlt : j < (p.vals β).length := (List.getElem?_eq_some_iff.1 hj).1
                      simp only [List.getElem?_toArray, Nat.zero_add]
                      rw [List.getElem?_append_left hlt]
                      exact hj
                    exact grow_sound hz (hS.drop id) hd hinf hr hzc (base := some ⟨blk β id, 0, none⟩) (olds := p) hsrc b2 hold (by omega) f1 f2 h
              · exact h.elim
            · exact h.elim
        · exact h.elim
    · exact h.elim
  · exact h.elim
end
end Vx
