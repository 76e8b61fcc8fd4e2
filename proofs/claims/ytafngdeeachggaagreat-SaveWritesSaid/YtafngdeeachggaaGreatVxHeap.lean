/- The symbolic heap: what it says of a world; loads, stores, new blocks. -/
import Derived.Test.YtafngdeeachggaaGreatVxVal
import Derived.Laws.Tables
import Derived.Laws.Cells
set_option linter.unusedVariables false
set_option linter.unusedSimpArgs false
namespace Vx
open Go

inductive SObj where
  | cells (l : SV) (elem : TypeId) (z : Bool)
  | map (es : List (SV × SV × Nat)) (clock : Nat)
  | other (o : Obj)
def entD (β : List Nat) (e : SV × SV × Nat) : MapEntry := ⟨e.1.val β, e.2.1.val β, e.2.2⟩
/-- The frozen range of a row of n cells: none, or the place behind its end. -/
def fzOf (z : Bool) (n : Nat) : Nat × Nat := bif z then (n, n + 1) else (0, 0)
def SObj.den (β : List Nat) : SObj → Obj
  | .cells l e z => .cells (l.vals β).toArray e (fzOf z (l.vals β).length)
  | .map es c => .map (es.map (entD β)).toArray c
  | .other o => o
def SObj.wf (n : Nat) : SObj → Prop
  | .cells l _ _ => l.wf n
  | .map es _ => ∀ e ∈ es, e.1.wf n ∧ e.2.1.wf n
  | .other _ => True
theorem SObj.den_append (β γ : List Nat) (o : SObj) (h : o.wf β.length) : o.den (β ++ γ) = o.den β := by
  cases o with
  | cells l e z => simp [SObj.den, SV.vals_append β γ l h]
  | map es c =>
    simp only [SObj.den]
    rw [List.map_congr_left (f := entD (β ++ γ)) (g := entD β)]
    intro e he
    obtain ⟨h1, h2⟩ := h e he
    simp [entD, SV.val_append β γ _ h1, SV.val_append β γ _ h2]
  | other o => rfl
theorem SObj.wf_mono {n m : Nat} (hnm : n ≤ m) (o : SObj) (h : o.wf n) : o.wf m := by
  cases o with
  | cells l e z => exact SV.wf_mono hnm l h
  | map es c => exact fun e he => ⟨SV.wf_mono hnm _ (h e he).1, SV.wf_mono hnm _ (h e he).2⟩
  | other o => trivial

/-- The next id; the blocks that are owned (the first row of an id counts; 'none': it is gone); blocks that are only read; all that is known to stay as it is. -/
structure Hp where
  n : Nat
  H : List (Nat × Option SObj)
  R : List (Nat × SObj)
  G : Nat → Option Obj

/-- What no call may touch, and the world in which it began. -/
structure Fr where
  h : Nat → Option Obj
  w0 : World

/-- What stays as it is. -/
def fixd (F : Fr) (G : Nat → Option Obj) (b : Nat) (o : Obj) : Prop := F.h b = some o ∨ G b = some o
def okOwn (F : Fr) (G : Nat → Option Obj) (β : List Nat) (w : World) (id : Nat) (o : SObj) : Prop :=
  id < β.length ∧ o.wf β.length ∧ (∀ x, ¬ fixd F G (blk β id) x) ∧ w.heap[blk β id]? = some (o.den β)
def okRo (G : Nat → Option Obj) (β : List Nat) (e : Nat × SObj) : Prop :=
  e.1 < β.length ∧ e.2.wf β.length ∧ G (blk β e.1) = some (e.2.den β)

def getH (id : Nat) : List (Nat × Option SObj) → Option SObj
  | [] => none
  | (j, o) :: r => bif Nat.beq j id then o else getH id r
def getR (id : Nat) : List (Nat × SObj) → Option SObj
  | [] => none
  | (j, o) :: r => bif Nat.beq j id then some o else getR id r
def setH (id : Nat) (x : SObj) (l : List (Nat × Option SObj)) : List (Nat × Option SObj) := (id, some x) :: l
def delH (id : Nat) (l : List (Nat × Option SObj)) : List (Nat × Option SObj) := (id, none) :: l

theorem getR_mem {id : Nat} {o : SObj} : ∀ {l}, getR id l = some o → (id, o) ∈ l
  | (j, x) :: r, h => by
    simp only [getR] at h
    cases hb : Nat.beq j id <;> rw [hb] at h
    · exact List.mem_cons_of_mem _ (getR_mem h)
    · have := beq_t hb; subst this; cases h; exact List.mem_cons_self
theorem getH_self (id : Nat) (o : Option SObj) (l : List (Nat × Option SObj)) : getH id ((id, o) :: l) = o := by
  simp [getH]
theorem getH_ne {id j : Nat} (h : j ≠ id) (o : Option SObj) (l : List (Nat × Option SObj)) : getH id ((j, o) :: l) = getH id l := by
  simp only [getH, beq_ne h, cond_false]

structure Sat (F : Fr) (β : List Nat) (hp : Hp) (w : World) : Prop where
  n : hp.n = β.length
  outer : w.tape = F.w0.tape ∧ w.os = F.w0.os ∧ w.output = F.w0.output
  ext : ∀ b o, fixd F hp.G b o → w.heap[b]? = some o
  own : ∀ id o, getH id hp.H = some o → okOwn F hp.G β w id o
  apart : ∀ id o id' o', getH id hp.H = some o → getH id' hp.H = some o' → id ≠ id' → blk β id ≠ blk β id'
  ro : ∀ e ∈ hp.R, okRo hp.G β e
  disj : ∀ b o, hp.G b = some o → F.h b = none

/-- A block, owned or read. -/
def getB (id : Nat) (hp : Hp) : Option SObj :=
  match getH id hp.H with
  | some o => some o
  | none => getR id hp.R

section
variable {F : Fr} {β : List Nat} {hp : Hp} {w : World}

theorem Sat.get (h : Sat F β hp w) {id : Nat} {o : SObj} (hg : getB id hp = some o) :
    id < β.length ∧ o.wf β.length ∧ w.heap[blk β id]? = some (o.den β) := by
  unfold getB at hg
  split at hg
  · rename_i o' ho
    cases hg
    obtain ⟨h1, h2, _, h4⟩ := h.own _ _ ho
    exact ⟨h1, h2, h4⟩
  · obtain ⟨h1, h2, h3⟩ := h.ro _ (getR_mem hg)
    exact ⟨h1, h2, h.ext _ _ (.inr h3)⟩

theorem Sat.drew (h : Sat F β hp w) (k : Nat) : Sat F β hp { w with drawn := k } :=
  ⟨h.n, h.outer, h.ext, h.own, h.apart, h.ro, h.disj⟩

/-- A world in which one owned block holds something else. -/
theorem Sat.set (h : Sat F β hp w) {id : Nat} {o o' : SObj} (hg : getH id hp.H = some o) (ho' : o'.wf β.length) {w' : World}
    (hout : w'.tape = w.tape ∧ w'.os = w.os ∧ w'.output = w.output)
    (hb : w'.heap[blk β id]? = some (o'.den β)) (hne : ∀ b, b ≠ blk β id → w'.heap[b]? = w.heap[b]?) :
    Sat F β { hp with H := setH id o' hp.H } w' := by
  obtain ⟨h1, _, h3, _⟩ := h.own _ _ hg
  have old : ∀ j x, j ≠ id → getH j (setH id o' hp.H) = some x → getH j hp.H = some x := fun j x hj hx => by
    rw [setH, getH_ne (Ne.symm hj)] at hx; exact hx
  refine ⟨h.n, ?_, ?_, ?_, ?_, h.ro, h.disj⟩
  · exact ⟨hout.1.trans h.outer.1, hout.2.1.trans h.outer.2.1, hout.2.2.trans h.outer.2.2⟩
  · intro b o hbo
    by_cases hbb : b = blk β id
    · subst hbb; exact absurd hbo (h3 o)
    · rw [hne b hbb]; exact h.ext b o hbo
  · intro j x hx
    by_cases hj : j = id
    · subst hj
      rw [setH, getH_self] at hx
      cases hx
      exact ⟨h1, ho', h3, hb⟩
    · have hx' := old j x hj hx
      obtain ⟨g1, g2, g3, g4⟩ := h.own j x hx'
      exact ⟨g1, g2, g3, by rw [hne _ (h.apart j x id o hx' hg hj)]; exact g4⟩
  · intro j x k y hx hy hjk
    have get : ∀ j x, getH j (setH id o' hp.H) = some x → ∃ x', getH j hp.H = some x' := fun j x hx => by
      by_cases hj : j = id
      · subst hj; exact ⟨o, hg⟩
      · exact ⟨x, old j x hj hx⟩
    obtain ⟨x', hx'⟩ := get j x hx
    obtain ⟨y', hy'⟩ := get k y hy
    exact h.apart j x' k y' hx' hy' hjk

/-- A block that nobody names any more. -/
theorem Sat.drop (h : Sat F β hp w) (id : Nat) : Sat F β { hp with H := delH id hp.H } w := by
  have old : ∀ j x, getH j (delH id hp.H) = some x → j ≠ id ∧ getH j hp.H = some x := fun j x hx => by
    by_cases hj : j = id
    · subst hj; rw [delH, getH_self] at hx; cases hx
    · rw [delH, getH_ne (Ne.symm hj)] at hx; exact ⟨hj, hx⟩
  exact ⟨h.n, h.outer, h.ext, fun j x hx => h.own j x (old j x hx).2, fun j x k y hx hy hjk => h.apart j x k y (old j x hx).2 (old k y hy).2 hjk, h.ro, h.disj⟩

/-- One block more, which nobody named. -/
theorem Sat.grow (h : Sat F β hp w) {b : Nat} {w' : World} {o : SObj} (ho : o.wf (hp.n + 1))
    (hout : w'.tape = w.tape ∧ w'.os = w.os ∧ w'.output = w.output)
    (hext : ∀ c x, fixd F hp.G c x → w'.heap[c]? = some x) (hfree : ∀ x, ¬ fixd F hp.G b x) (hb : w'.heap[b]? = some (o.den (β ++ [b])))
    (hold : ∀ id x, getH id hp.H = some x → blk β id ≠ b ∧ w'.heap[blk β id]? = some (x.den β)) :
    Sat F (β ++ [b]) { hp with n := hp.n + 1, H := (hp.n, some o) :: hp.H } w' := by
  have hn := h.n
  have hlen : (β ++ [b]).length = hp.n + 1 := by simp [hn]
  have hblk : blk (β ++ [b]) hp.n = b := by simp [blk, hn]
  have keep : ∀ j : Nat, j < β.length → blk (β ++ [b]) j = blk β j := fun j hj => blk_append hj
  have old : ∀ j x, j ≠ hp.n → getH j ((hp.n, some o) :: hp.H) = some x → getH j hp.H = some x := fun j x hj hx => by
    rw [getH_ne (Ne.symm hj)] at hx; exact hx
  refine ⟨by rw [hlen], ⟨hout.1.trans h.outer.1, hout.2.1.trans h.outer.2.1, hout.2.2.trans h.outer.2.2⟩, hext, ?_, ?_, ?_, h.disj⟩
  · intro j x hx
    by_cases hj : j = hp.n
    · subst hj
      rw [getH_self] at hx
      cases hx
      exact ⟨by rw [hlen]; exact Nat.lt_succ_self _, by rw [hlen]; exact ho, by rw [hblk]; exact hfree, by rw [hblk]; exact hb⟩
    · have hx' := old j x hj hx
      obtain ⟨g1, g2, g3, g4⟩ := h.own j x hx'
      refine ⟨by rw [hlen]; omega, SObj.wf_mono (by rw [hlen]; omega) _ g2, by rw [keep _ g1]; exact g3, ?_⟩
      rw [keep _ g1, SObj.den_append _ _ _ g2]
      exact (hold j x hx').2
  · intro j x k y hx hy hjk
    by_cases hj : j = hp.n
    · subst hj
      have hy' := old k y (Ne.symm hjk) hy
      rw [hblk, keep _ (h.own k y hy').1]
      exact Ne.symm (hold k y hy').1
    · have hx' := old j x hj hx
      by_cases hk : k = hp.n
      · subst hk
        rw [hblk, keep _ (h.own j x hx').1]
        exact (hold j x hx').1
      · have hy' := old k y hk hy
        rw [keep _ (h.own j x hx').1, keep _ (h.own k y hy').1]
        exact h.apart j x k y hx' hy' hjk
  · intro e he
    obtain ⟨g1, g2, g3⟩ := h.ro e he
    exact ⟨by rw [hlen]; omega, SObj.wf_mono (by rw [hlen]; omega) _ g2, by rw [keep _ g1, SObj.den_append _ _ _ g2]; exact g3⟩

/-- A new block. -/
theorem Sat.new (h : Sat F β hp w) (o : SObj) (ho : o.wf (hp.n + 1)) :
    Sat F (β ++ [w.heap.size]) { hp with n := hp.n + 1, H := (hp.n, some o) :: hp.H } { w with heap := w.heap.push (o.den (β ++ [w.heap.size])) } := by
  have hold : ∀ b x, w.heap[b]? = some x → b < w.heap.size := fun b x hb => (Array.getElem?_eq_some_iff.1 hb).1
  have hpush : ∀ b x, w.heap[b]? = some x → (w.heap.push (o.den (β ++ [w.heap.size])))[b]? = some x := fun b x hb => by
    rw [Array.getElem?_push_lt (hold b x hb)]
    rw [← hb]; exact (Array.getElem?_eq_getElem (hold b x hb)).symm
  have hfree : ∀ x, ¬ fixd F hp.G w.heap.size x := fun x hF => absurd (hold _ _ (h.ext _ _ hF)) (Nat.lt_irrefl _)
  refine h.grow ho ⟨rfl, rfl, rfl⟩ (fun b x hb => hpush b x (h.ext b x hb)) hfree (by simp) fun id x hx => ?_
  obtain ⟨g1, g2, g3, g4⟩ := h.own id x hx
  exact ⟨Nat.ne_of_lt (hold _ _ g4), hpush _ _ g4⟩

/-- An owned block under a new id, holding something else. -/
theorem Sat.move (h : Sat F β hp w) {id : Nat} {o o' : SObj} (hg : getH id hp.H = some o) (ho' : o'.wf β.length) {w' : World}
    (hout : w'.tape = w.tape ∧ w'.os = w.os ∧ w'.output = w.output)
    (hb : w'.heap[blk β id]? = some (o'.den β)) (hne : ∀ b, b ≠ blk β id → w'.heap[b]? = w.heap[b]?) :
    Sat F (β ++ [blk β id]) { hp with n := hp.n + 1, H := (hp.n, some o') :: delH id hp.H } w' := by
  obtain ⟨h1, _, h3, _⟩ := h.own _ _ hg
  have hn := h.n
  refine (h.drop id).grow (w' := w') (SObj.wf_mono (by rw [hn]; exact Nat.le_succ _) _ ho') hout (fun c x hc => ?_) h3 (by rw [SObj.den_append _ _ _ ho']; exact hb) fun j x hx => ?_
  · by_cases hcb : c = blk β id
    · subst hcb; exact absurd hc (h3 x)
    · rw [hne c hcb]; exact h.ext c x hc
  · by_cases hj : j = id
    · subst hj; rw [delH, getH_self] at hx; cases hx
    · rw [delH, getH_ne (Ne.symm hj)] at hx
      have hap := h.apart j x id o hx hg hj
      exact ⟨hap, by rw [hne _ hap]; exact (h.own j x hx).2.2.2⟩

theorem SV.wf_new {β : List Nat} {x : SV} (b : Nat) (h : x.wf β.length) : x.wf (β ++ [b]).length := SV.wf_mono (by simp) x h
end

/-! ### Loads and stores -/
section
variable {P : Program} {F : Fr} {β : List Nat} {hp : Hp} {w : World}

/-- The row of a block. -/
def getRow (id : Nat) (hp : Hp) : Option (SV × TypeId × Bool) :=
  match getB id hp with
  | some (.cells l e z) => some (l, e, z)
  | _ => none
theorem Sat.row (h : Sat F β hp w) {id : Nat} {l : SV} {e : TypeId} {z : Bool} (hg : getRow id hp = some (l, e, z)) :
    id < β.length ∧ l.wf β.length ∧ w.heap[blk β id]? = some (.cells (l.vals β).toArray e (fzOf z (l.vals β).length)) := by
  unfold getRow at hg
  split at hg
  · rename_i l' e' z' hb
    cases hg
    exact h.get hb
  · cases hg

def ownRow (id : Nat) (hp : Hp) : Option (SV × TypeId × Bool) :=
  match getH id hp.H with
  | some (.cells l e z) => some (l, e, z)
  | _ => none
theorem ownRow_get {id : Nat} {l : SV} {e : TypeId} {z : Bool} (hg : ownRow id hp = some (l, e, z)) : getH id hp.H = some (.cells l e z) := by
  unfold ownRow at hg
  split at hg
  · rename_i l' e' z' hb
    cases hg
    exact hb
  · cases hg
theorem ownRow_row {id : Nat} {l : SV} {e : TypeId} {z : Bool} (hg : ownRow id hp = some (l, e, z)) : getRow id hp = some (l, e, z) := by
  have := ownRow_get hg
  simp [getRow, getB, this]

theorem cell_of_row {b : Nat} {c : Array Value} {e : TypeId} {fz : Nat × Nat} (hb : w.heap[b]? = some (.cells c e fz)) (o : Nat) : w.cell? ⟨b, o, none⟩ = c[o]? := by
  simp [World.cell?, hb]
theorem addr_add (b o i : Nat) : Addr.add ⟨b, o, none⟩ i = ⟨b, o + i, none⟩ := by
  unfold Addr.add
  split
  · rename_i h; subst h; rfl
  · rfl

/-- Cells that stay as they are. -/
def Rd (G : Nat → Option Obj) (b o : Nat) (vs : List Value) : Prop :=
  ∃ c e fz, G b = some (.cells c e fz) ∧ ∀ j v, vs[j]? = some v → c[o + j]? = some v
/-- A slice's cells, that stay as they are. -/
def RdS (G : Nat → Option Obj) (a : Option Addr) (len : Nat) (vs : List Value) : Prop :=
  (len = 0 ∧ vs = []) ∨ ∃ b o, a = some ⟨b, o, none⟩ ∧ Rd G b o vs
theorem Rd.cell (h : Sat F β hp w) {b o : Nat} {vs : List Value} (hr : Rd hp.G b o vs) {j : Nat} {v : Value} (hj : vs[j]? = some v) : w.cell? (Addr.add ⟨b, o, none⟩ j) = some v := by
  obtain ⟨c, e, fz, h1, h2⟩ := hr
  rw [addr_add, cell_of_row (h.ext _ _ (.inr h1)), h2 j v hj]

/-- Reading so many cells out of a row. -/
theorem run_loadCells_row {b o : Nat} {c : Array Value} {e : TypeId} {fz : Nat × Nat} (hb : w.heap[b]? = some (.cells c e fz)) (pre mid post : List Value)
    (hc : c = (pre ++ mid ++ post).toArray) (ho : o = pre.length) :
    (loadCells ⟨b, o, none⟩ mid.length).run P w = .ok mid.toArray w := by
  refine run_loadCells_list w ⟨b, o, none⟩ mid fun j v hj => ?_
  rw [addr_add, cell_of_row hb, hc, ho]
  have hlt : j < mid.length := (List.getElem?_eq_some_iff.1 hj).1
  simp only [List.getElem?_toArray]
  rw [List.getElem?_append_left (by simp; omega), List.getElem?_append_right (by omega)]
  simpa using hj

/-- Writing a row of cells. -/
theorem run_storeCells_row : ∀ (vs : List Value) (i : Nat) (w : World) (b o : Nat) (e : TypeId) (pre old post : List Value) (z : Bool),
    w.heap[b]? = some (.cells (pre ++ old ++ post).toArray e (fzOf z (pre ++ old ++ post).length)) → o + i = pre.length → old.length = vs.length → (∀ v ∈ vs, v.oneCell' = true) →
    ∃ w', (storeCells ⟨b, o, none⟩ vs i).run P w = .ok () w' ∧ w'.heap[b]? = some (.cells (pre ++ vs ++ post).toArray e (fzOf z (pre ++ vs ++ post).length)) ∧
      (∀ b', b' ≠ b → w'.heap[b']? = w.heap[b']?) ∧ w'.tape = w.tape ∧ w'.os = w.os ∧ w'.output = w.output
  | [], i, w, b, o, e, pre, old, post, z, hb, ho, hl, _ => by
    have : old = [] := List.eq_nil_of_length_eq_zero hl
    subst this
    exact ⟨w, rfl, hb, fun _ _ => rfl, rfl, rfl, rfl⟩
  | v :: vs, i, w, b, o, e, pre, old, post, z, hb, ho, hl, hv => by
    match old, hl with
    | x :: old, hl =>
      have hcell : w.cell? ⟨b, o + i, none⟩ = some x := by
        rw [cell_of_row hb, ho]
        simp
      have hfr : w.frozen? ⟨b, o + i, none⟩ = false := by
        cases z <;> simp [World.frozen?, hb, fzOf] <;> omega
      have hset : (w.setCell ⟨b, o + i, none⟩ v).heap[b]? = some (.cells ((pre ++ [v]) ++ old ++ post).toArray e (fzOf z ((pre ++ [v]) ++ old ++ post).length)) := by
        simp [World.setCell, Array.getElem?_modify, hb, ho]
      obtain ⟨w', h1, h2, h3, h4⟩ := run_storeCells_row vs (i + 1) (w.setCell ⟨b, o + i, none⟩ v) b o e (pre ++ [v]) old post z hset (by simp; omega) (by simpa using hl) (fun u hu => hv u (List.mem_cons_of_mem _ hu))
      refine ⟨w', ?_, ?_, ?_, ?_⟩
      · simp only [storeCells, Sem.run_bind, addr_add]
        rw [run_store _ _ _ _ _ (hv v List.mem_cons_self), hcell]
        simp only [hfr, Bool.false_eq_true, if_false, Result.andThen_ok]
        exact h1
      · simpa using h2
      · intro b' hb'
        rw [h3 b' hb']
        simp [World.setCell, Array.getElem?_modify, Ne.symm hb']
      · exact h4
end
end Vx
