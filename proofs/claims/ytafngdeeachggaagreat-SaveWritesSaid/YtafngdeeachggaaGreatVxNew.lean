/- New memory: structs and rows built, boxes, slices and maps made. -/
import Derived.Test.YtafngdeeachggaaGreatVxMem
import Derived.Laws.MakeOwn
set_option linter.unusedVariables false
set_option linter.unusedSimpArgs false
namespace Vx
open Go

/-- Rows of zero values that are told apart (arrays, and what holds them). -/
def lookZ (t : TypeId) : List (TypeId × SV) → Option SV
  | [] => none
  | (u, r) :: l => bif Nat.beq u t then some r else lookZ t l
/-- They are the program's. -/
def ZOk (P : Program) (zt : List (TypeId × SV)) : Prop :=
  ∀ e ∈ zt, e.2.wf 0 ∧ ∃ i z, P.info? e.1 = some i ∧ i.zero = some z ∧ e.2.vals [] = z.cells.toList
theorem lookZ_mem {t : TypeId} {r : SV} : ∀ {l}, lookZ t l = some r → (t, r) ∈ l
  | (u, x) :: l, h => by
    simp only [lookZ] at h
    cases hb : Nat.beq u t <;> rw [hb] at h
    · exact List.mem_cons_of_mem _ (lookZ_mem h)
    · have := beq_t hb; subst this; cases h; exact List.mem_cons_self

def zrow (P : Program) (zt : List (TypeId × SV)) (t : TypeId) : Option SV :=
  match lookZ t zt with
  | some r => some r
  | none => match P.info? t with
    | some i => match i.zero with
      | some z => some (ofVs z.cells.toList)
      | none => none
    | none => none

section
variable {P : Program} {F : Fr} {β : List Nat} {hp : Hp} {w : World} {K : SV → Hp → Prop} {zt : List (TypeId × SV)}

theorem zrow_sound (hz : ZOk P zt) {t : TypeId} {r : SV} (h : zrow P zt t = some r) :
    ∃ i z, P.info? t = some i ∧ i.zero = some z ∧ r.wf β.length ∧ r.vals β = z.cells.toList := by
  unfold zrow at h
  split at h
  · rename_i r' hr
    cases h
    obtain ⟨h1, i, z, h2, h3, h4⟩ := hz _ (lookZ_mem hr)
    refine ⟨i, z, h2, h3, SV.wf_mono (Nat.zero_le _) _ h1, ?_⟩
    have := SV.vals_append [] β r (by simpa using h1)
    simpa [h4] using this
  · split at h
    · rename_i i hi
      split at h
      · rename_i z hzz
        cases h
        exact ⟨i, z, hi, hzz, ofVs_wf _ _, ofVs_vals _ _⟩
      · cases h
    · cases h

theorem run_zeroValue {t : TypeId} {i : TypeInfo} {z : Value} (hi : P.info? t = some i) (hz : i.zero = some z) (w : World) : (zeroValue t).run P w = .ok z w := by
  simp [zeroValue, typeInfo, hi, hz]

/-- A new block and its address. -/
theorem yld_new (hS : Sat F β hp w) {l : SV} (hl : l.wf β.length) (el : TypeId) (mk : Nat → SV) (hone : (mk hp.n).one = true) (hwf : (mk hp.n).wf (hp.n + 1))
    (hK : K (mk hp.n) { hp with n := hp.n + 1, H := (hp.n, some (.cells l el false)) :: hp.H }) {v : Value} (hv : ∀ γ : List Nat, blk γ hp.n = w.heap.size → v = (mk hp.n).val γ) :
    Yld F β K v { w with heap := w.heap.push (.cells (l.vals β).toArray el (0, 0)) } := by
  have hn := hS.n
  have := hS.new (.cells l el false) (by rw [hn]; exact SV.wf_mono (Nat.le_succ _) _ hl)
  have hv' := SV.vals_append β [w.heap.size] l hl
  simp only [SObj.den, hv', fzOf, cond_false] at this
  refine ⟨[w.heap.size], mk hp.n, _, this, hone, ?_, hv _ ?_, hK⟩
  · simp only [List.length_append, List.length_singleton, ← hn]; exact hwf
  · simp [blk, hn]

/-- The cells of a value. -/
def cellsOf (x : SV) : SV :=
  match aggOf x with
  | some l => l
  | none => .cons x .nil
theorem cellsOf_sound {x : SV} (h1 : x.one = true) (hw : x.wf β.length) (hne : (aggOf x).isSome = true ∨ x.cell = true) :
    (cellsOf x).wf β.length ∧ (x.val β).cells.toList = (cellsOf x).vals β := by
  unfold cellsOf
  split
  · rename_i l hl
    obtain ⟨e1, e2⟩ := aggOf_sound (β := β) hl hw
    exact ⟨e2, by rw [e1]; rfl⟩
  · rename_i hn
    rw [hn] at hne
    have hc := hne.resolve_left (by simp)
    obtain ⟨c1, _⟩ := SV.cell_sound (β := β) hc
    refine ⟨⟨hw, trivial⟩, ?_⟩
    simp only [SV.vals, SV.vals_one β h1, List.append_nil]
    cases hv : x.val β <;> first | rfl | (rw [hv] at c1; cases c1)
def oneOk (x : SV) : Bool := (aggOf x).isSome || x.cell

def newRowK (l : SV) (el : TypeId) (hp : Hp) (K : SV → Hp → Prop) (mk : Nat → SV) : Prop :=
  K (mk hp.n) { hp with n := hp.n + 1, H := (hp.n, some (.cells l el false)) :: hp.H }

def xAlloc (P : Program) (zt : List (TypeId × SV)) (t : TypeId) (hp : Hp) (K : SV → Hp → Prop) : Prop :=
  match zrow P zt t with
  | some r => newRowK r t hp K (fun n => .ptr n (.lit 0))
  | none => False
theorem xAlloc_sound (hz : ZOk P zt) (hS : Sat F β hp w) {t : TypeId} (h : xAlloc P zt t hp K) : Runs P F β w (Instr.alloc t true (.tuple #[])) K := by
  unfold xAlloc at h
  split at h
  · rename_i r hr
    obtain ⟨i, z, hi, hzz, h1, h2⟩ := zrow_sound (β := β) hz hr
    refine ⟨_, _, ?_, yld_new hS h1 t (fun n => .ptr n (.lit 0)) rfl (Nat.lt_succ_self _) h (v := .pointer (some ⟨w.heap.size, 0, none⟩)) (fun γ hγ => ?_)⟩
    · simp [Instr.alloc, run_zeroValue hi hzz, newVar, newRow, h2]
    · simp [SV.val, SV.vals, hγ, Off.den]
  · exact h.elim

def xBox (t : TypeId) (x : SV) (hp : Hp) (K : SV → Hp → Prop) : Prop :=
  bif oneOk x then newRowK (cellsOf x) t hp K (fun n => .ptr n (.lit 0)) else False
theorem xBox_sound (hS : Sat F β hp w) {t : TypeId} {x : SV} (h1 : x.one = true) (hx : x.wf β.length) (h : xBox t x hp K) : Runs P F β w (Instr.box t (x.val β)) K := by
  unfold xBox at h
  cases hc : oneOk x <;> rw [hc] at h
  · exact h.elim
  · obtain ⟨g1, g2⟩ := cellsOf_sound (β := β) h1 hx (by simpa [oneOk] using hc)
    refine ⟨_, _, ?_, yld_new hS g1 t (fun n => .ptr n (.lit 0)) rfl (Nat.lt_succ_self _) h (v := .pointer (some ⟨w.heap.size, 0, none⟩)) (fun γ hγ => ?_)⟩
    · simp [Instr.box, newVar, newRow, ← g2]
    · simp [SV.val, SV.vals, hγ, Off.den]

/-! ### Parts put into a row -/

/-- The row with a value's cells at a place. -/
def rowPut (l : SV) (o n : Nat) (x : SV) (K : SV → Prop) : Prop :=
  bif x.cell && Nat.beq n 1 then rowSet l o none x K
  else match aggOf x with
    | none => False
    | some r => match rowCut l o with
      | none => False
      | some (p, q) => match rowCut q n with
        | none => False
        | some (_, s) => match r.wid with
          | none => False
          | some m => bif Nat.beq m n then K (p.app (r.app s)) else False

theorem rowPut_sound {l : SV} {o n : Nat} {x : SV} {K : SV → Prop} (hl : l.wf β.length) (h1 : x.one = true) (hx : x.wf β.length) (h : rowPut l o n x K) :
    ∃ l' pre old post, K l' ∧ l'.wf β.length ∧ l.vals β = pre ++ old ++ post ∧ l'.vals β = pre ++ (x.val β).cells.toList ++ post ∧ pre.length = o ∧ old.length = n ∧ (x.val β).cells.size = n := by
  unfold rowPut at h
  cases hc : (x.cell && Nat.beq n 1) <;> rw [hc] at h
  · simp only [cond_false] at h
    split at h
    · exact h.elim
    · rename_i r hr
      split at h
      · exact h.elim
      · rename_i p q hpq
        split at h
        · exact h.elim
        · rename_i m s hms
          split at h
          · exact h.elim
          · rename_i wd hwd
            cases hb : Nat.beq wd n <;> rw [hb] at h
            · exact h.elim
            · have := beq_t hb
              subst this
              obtain ⟨a1, a2⟩ := aggOf_sound (β := β) hr hx
              obtain ⟨e1, e2, e3, e4⟩ := rowCut_sound β l o _ _ hl hpq
              obtain ⟨f1, f2, f3, f4⟩ := rowCut_sound β q wd _ _ e4 hms
              have hlen := SV.wid_len β r a2 wd hwd
              refine ⟨_, p.vals β, m.vals β, s.vals β, h, SV.app_wf _ _ _ e3 (SV.app_wf _ _ _ a2 f4), by rw [e1, f1]; simp, ?_, e2, f2, ?_⟩
              · rw [a1]; simp [SV.app_vals, Value.cells]
              · rw [a1]; simp [Value.cells, hlen]
  · simp only [cond_true] at h
    simp only [Bool.and_eq_true] at hc
    obtain ⟨c1, c2⟩ := SV.cell_sound (β := β) hc.1
    have hn := beq_t hc.2
    subst hn
    obtain ⟨l', k1, k2, k3, k4⟩ := rowSet_sound β x c2 hx l _ _ _ hl h
    simp only [iD, Option.getD_none, Nat.add_zero] at k3 k4
    have hcells : (x.val β).cells = #[x.val β] := by
      cases hv : x.val β <;> first | rfl | (rw [hv] at c1; cases c1)
    refine ⟨l', (l.vals β).take o, [(l.vals β)[o]], (l.vals β).drop (o + 1), k1, k2, ?_, ?_, by simp; omega, rfl, by rw [hcells]; rfl⟩
    · rw [List.append_assoc, List.singleton_append, List.getElem_cons_drop, List.take_append_drop]
    · rw [hcells, k3, List.set_eq_take_append_cons_drop]
      simp [k4]

theorem foldl_set (off : Nat) : ∀ (mid : List Value) (k : Nat) (pre old post : List Value), pre.length = off + k → old.length = mid.length →
    ((mid.zipIdx k).foldl (fun cs (p : Value × Nat) => cs.setIfInBounds (off + p.2) p.1) (pre ++ old ++ post).toArray) = (pre ++ mid ++ post).toArray
  | [], k, pre, old, post, _, hl => by
    have : old = [] := List.eq_nil_of_length_eq_zero hl
    subst this
    rfl
  | v :: mid, k, pre, x :: old, post, hk, hl => by
    simp only [List.zipIdx_cons, List.foldl_cons]
    have h1 : ((pre ++ (x :: old) ++ post).toArray).setIfInBounds (off + k) v = ((pre ++ [v]) ++ old ++ post).toArray := by
      rw [← hk]
      simp
    rw [h1, foldl_set off mid (k + 1) (pre ++ [v]) old post (by simp; omega) (by simpa using hl)]
    simp

theorem fill_put {place : Nat → Option (Nat × Nat)} {i : Nat} {v : Value} {rest : List (Nat × Value)} {off size : Nat} {pre old post : List Value}
    (hp : place i = some (off, size)) (h1 : pre.length = off) (h2 : old.length = size) (h3 : v.cells.size = size) :
    Instr.fill place (pre ++ old ++ post).toArray ((i, v) :: rest) = Instr.fill place (pre ++ v.cells.toList ++ post).toArray rest := by
  have h4 := foldl_set off v.cells.toList 0 pre old post (by omega) (by simp [h2, h3])
  have h5 : ¬ ((decide (v.cells.size ≠ size) || decide (off + v.cells.size > (pre ++ old ++ post).toArray.size)) = true) := by simp; omega
  simp only [Instr.fill, hp]
  rw [if_neg h5]
  congr 1
  rw [← h4]
  rw [← Array.foldl_toList]
  simp

/-- Parts put into a row, each at its place. -/
def putAll (place : Nat → Option (Nat × Nat)) : SV → List (Nat × SV) → (SV → Prop) → Prop
  | l, [], K => K l
  | l, (i, x) :: rest, K =>
    match place i with
    | none => False
    | some (off, size) => rowPut l off size x fun l' => putAll place l' rest K

theorem putAll_sound {place : Nat → Option (Nat × Nat)} : ∀ (ps : List (Nat × SV)) (l : SV) (K : SV → Prop), l.wf β.length → (∀ p ∈ ps, p.2.one = true ∧ p.2.wf β.length) → putAll place l ps K →
    ∃ l', K l' ∧ l'.wf β.length ∧ Instr.fill place (l.vals β).toArray (ps.map fun p => (p.1, p.2.val β)) = some (l'.vals β).toArray
  | [], l, K, hl, _, h => ⟨l, h, hl, rfl⟩
  | (i, x) :: rest, l, K, hl, hps, h => by
    simp only [putAll] at h
    split at h
    · exact h.elim
    · rename_i off size hp
      obtain ⟨h1, h2⟩ := hps _ List.mem_cons_self
      obtain ⟨l', pre, old, post, hK, hw, e1, e2, e3, e4, e5⟩ := rowPut_sound hl h1 h2 h
      obtain ⟨l'', hK', hw', hf⟩ := putAll_sound rest l' K hw (fun p hp => hps p (List.mem_cons_of_mem _ hp)) hK
      refine ⟨l'', hK', hw', ?_⟩
      rw [List.map_cons, e1, fill_put hp e3 e4 e5, ← e2]
      exact hf

def fieldPlace (P : Program) (t : TypeId) (i : Nat) : Option (Nat × Nat) :=
  match fieldOf P t i with
  | some fd => match P.info? fd.type with
    | some inf => some (fd.offset, inf.size)
    | none => none
  | none => none

/-- Have all fields a size? -/
def sizedAll (P : Program) : List Field → Bool
  | [] => true
  | f :: r => (P.info? f.type).isSome && sizedAll P r

def xBuild (P : Program) (zt : List (TypeId × SV)) (t : TypeId) (ps : List (Nat × SV)) (K : SV → Prop) : Prop :=
  match zrow P zt t with
  | none => False
  | some z => match P.underlying t with
    | some (.struct fs) => bif sizedAll P fs.toList then putAll (fieldPlace P t) z ps fun l => K (.agg l) else False
    | some (.array _ elem) => match P.info? elem with
      | some inf => putAll (fun i => some (i * inf.size, inf.size)) z ps fun l => K (.agg l)
      | none => False
    | _ => False

theorem run_places {fs : Array Field} (hs : sizedAll P fs.toList = true) (w : World) :
    (fs.mapM fun f => do pure (f.offset, ← Go.sizeOf f.type) : Sem (Array (Nat × Nat))).run P w = .ok (fs.map fun f => (f.offset, P.cellsOf f.type)) w := by
  rw [Array.mapM_eq_mapM_toList]
  have key : ∀ l : List Field, sizedAll P l = true → (l.mapM fun f => do pure (f.offset, ← Go.sizeOf f.type) : Sem (List (Nat × Nat))).run P w = .ok (l.map fun f => (f.offset, P.cellsOf f.type)) w := by
    intro l
    induction l with
    | nil => intro _; rfl
    | cons f r ih =>
      intro h
      simp only [sizedAll, Bool.and_eq_true] at h
      obtain ⟨i, hi⟩ := Option.isSome_iff_exists.1 h.1
      have h1 : (Go.sizeOf f.type).run P w = .ok i.size w := by simp [Go.sizeOf, typeInfo, hi]
      have h2 : P.cellsOf f.type = i.size := by simp [Program.cellsOf, hi]
      rw [List.mapM_cons]
      simp only [Sem.run_bind, h1, Result.andThen_ok, Sem.run_pure, ih h.2, List.map_cons, h2]
  have h := key fs.toList hs
  show Sem.run P (Functor.map List.toArray _) w = _
  rw [Sem.run_map, h]
  simp only [Result.andThen_ok]
  congr 1
  apply Array.ext'
  simp

theorem xBuild_sound (hz : ZOk P zt) {t : TypeId} {ps : List (Nat × SV)} {K : SV → Prop} (hps : ∀ p ∈ ps, p.2.one = true ∧ p.2.wf β.length) (h : xBuild P zt t ps K) :
    ∃ sv, K sv ∧ sv.one = true ∧ sv.wf β.length ∧ ∀ w, (Instr.build t (ps.map fun p => (p.1, p.2.val β)).toArray).run P w = .ok (sv.val β) w := by
  unfold xBuild at h
  split at h
  · exact h.elim
  · rename_i r hr
    obtain ⟨i, z, hi, hzz, h1, h2⟩ := zrow_sound (β := β) hz hr
    have hcells : z.cells = (r.vals β).toArray := by rw [h2]
    split at h
    · rename_i fs hd
      cases hs : sizedAll P fs.toList <;> rw [hs] at h
      · exact h.elim
      · obtain ⟨l', hK, hw, hf⟩ := putAll_sound (β := β) ps r _ h1 hps h
        refine ⟨_, hK, rfl, hw, fun w => ?_⟩
        have hpl : Instr.fill ((fs.map fun f => (f.offset, P.cellsOf f.type))[·]?) (r.vals β).toArray (ps.map fun p => (p.1, p.2.val β)) = some (l'.vals β).toArray := by
          rw [← hf]
          congr 1
          funext i
          simp only [fieldPlace, fieldOf, hd, Array.getElem?_map]
          cases hfi : fs[i]? with
          | none => rfl
          | some fd =>
            have hmem : ∀ l : List Field, sizedAll P l = true → fd ∈ l → (P.info? fd.type).isSome = true := by
              intro l
              induction l with
              | nil => intro _ h; cases h
              | cons a l ih =>
                intro h hm
                simp only [sizedAll, Bool.and_eq_true] at h
                rcases List.mem_cons.1 hm with rfl | hm
                · exact h.1
                · exact ih h.2 hm
            obtain ⟨inf, hinf⟩ := Option.isSome_iff_exists.1 (hmem _ hs (Array.mem_toList_iff.2 (Array.mem_of_getElem? hfi)))
            simp [hinf, Program.cellsOf]
        simp only [Instr.build, Sem.run_bind, run_zeroValue hi hzz, Result.andThen_ok, run_underlying hd, run_places hs, hcells]
        rw [hpl]
        rfl
    · rename_i n elem hd
      split at h
      · rename_i inf hinf
        obtain ⟨l', hK, hw, hf⟩ := putAll_sound (β := β) ps r _ h1 hps h
        refine ⟨_, hK, rfl, hw, fun w => ?_⟩
        simp only [Instr.build, Sem.run_bind, run_zeroValue hi hzz, Result.andThen_ok, run_underlying hd, hcells, Go.sizeOf, typeInfo, run_program, hinf, Sem.run_pure]
        rw [hf]
        rfl
      · exact h.elim
    · exact h.elim

/-! ### Rows of so many elements -/

/-- A row, so many times. -/
def rep (z : SV) : Nat → SV
  | 0 => .nil
  | n + 1 => z.app (rep z n)
/-- So many zero elements. -/
def zeros (z : SV) (n : Nat) : SV :=
  match z with
  | .cons (.int k (.lit d)) .nil => .cons (.run k (.lit n) (.fill n d [])) .nil
  | z => rep z n
def repL (zs : List Value) : Nat → List Value
  | 0 => []
  | n + 1 => zs ++ repL zs n
theorem rep_vals (z : SV) : ∀ n, (rep z n).vals β = repL (z.vals β) n
  | 0 => rfl
  | n + 1 => by simp [rep, repL, SV.app_vals, rep_vals z n]
theorem rep_wf (z : SV) (m : Nat) (h : z.wf m) : ∀ n, (rep z n).wf m
  | 0 => trivial
  | n + 1 => SV.app_wf _ _ _ h (rep_wf z m h n)
theorem repL_one (v : Value) : ∀ n, repL [v] n = List.replicate n v
  | 0 => rfl
  | n + 1 => by simp [repL, repL_one v n, List.replicate_succ]
theorem zeros_sound (z : SV) (n : Nat) (h : z.wf β.length) : (zeros z n).wf β.length ∧ (zeros z n).vals β = repL (z.vals β) n := by
  unfold zeros
  split
  · rename_i k d
    refine ⟨⟨show (List.replicate n d).length = n by simp, trivial⟩, ?_⟩
    show (List.replicate n d).map (Value.int k) ++ [] = repL [.int k d] n
    rw [repL_one]
    simp
  · exact ⟨rep_wf z _ h n, rep_vals z n⟩

theorem madeCells_repL (z : Array Value) (n : Nat) : madeCells z (n * z.size) = (repL z.toList n).toArray := by
  apply Array.ext'
  unfold madeCells
  induction n with
  | zero => simp [repL]
  | succ n ih =>
    have hs : (n + 1) * z.size = z.size + n * z.size := by rw [Nat.succ_mul]; omega
    have ih' : List.map (fun x => z[x % z.size]!) (List.range (n * z.size)) = repL z.toList n := by
      rw [Array.toList_map, Array.toList_range] at ih; exact ih
    rw [Array.toList_map, Array.toList_range]
    show _ = repL z.toList (n + 1)
    rw [hs, List.range_add, List.map_append, repL]
    congr 1
    · apply List.ext_getElem
      · simp
      · intro i h1 h2
        simp at h1
        simp [Nat.mod_eq_of_lt h1, h1]
    · rw [List.map_map, ← ih']
      apply List.map_congr_left
      intro i _
      simp [Nat.add_mod_left]

/-- A few are written out. -/
def zerosB (z : SV) (n : Nat) : SV := bif Nat.ble n 16 then rep z n else zeros z n
theorem zerosB_sound (z : SV) (n : Nat) (h : z.wf β.length) : (zerosB z n).wf β.length ∧ (zerosB z n).vals β = repL (z.vals β) n := by
  unfold zerosB
  cases Nat.ble n 16
  · exact zeros_sound z n h
  · exact ⟨rep_wf z _ h n, rep_vals z n⟩
def xBuildSlice (P : Program) (zt : List (TypeId × SV)) (t : TypeId) (len : Nat) (ps : List (Nat × SV)) (hp : Hp) (K : SV → Hp → Prop) : Prop :=
  match P.underlying t with
  | some (.slice elem) => match P.info? elem, zrow P zt elem with
    | some inf, some z => bif Nat.ble (len * inf.size) 16777216 && (match z.wid with | some m => Nat.beq m inf.size | none => false) then
        putAll (fun i => some (i * inf.size, inf.size)) (zerosB z len) ps fun l =>
          newRowK l elem hp K (fun n => .slice n (.lit 0) (.lit len) (.lit len)) else False
    | _, _ => False
  | _ => False
theorem xBuildSlice_sound (hz : ZOk P zt) (hS : Sat F β hp w) {t : TypeId} {len : Nat} {ps : List (Nat × SV)} (hps : ∀ p ∈ ps, p.2.one = true ∧ p.2.wf β.length)
    (h : xBuildSlice P zt t len ps hp K) : Runs P F β w (Instr.buildSlice t len (ps.map fun p => (p.1, p.2.val β)).toArray) K := by
  unfold xBuildSlice at h
  split at h
  · rename_i elem hd
    split at h
    · rename_i inf r hinf hr
      cases hc : (Nat.ble (len * inf.size) 16777216 && (match r.wid with | some m => Nat.beq m inf.size | none => false)) <;> rw [hc] at h
      · exact h.elim
      · simp only [cond_true] at h
        simp only [Bool.and_eq_true] at hc
        have hle := Nat.le_of_ble_eq_true hc.1
        obtain ⟨i, z, hi, hzz, h1, h2⟩ := zrow_sound (β := β) hz hr
        obtain rfl : inf = i := by rw [hinf] at hi; exact Option.some.inj hi
        have hzsz : z.cells.size = inf.size := by
          have h3 := hc.2
          split at h3
          · rename_i m hm
            have h4 := SV.wid_len β r h1 m hm
            rw [h2] at h4
            have := beq_t h3
            simp at h4
            omega
          · cases h3
        obtain ⟨z1, z2⟩ := zerosB_sound (β := β) r len h1
        obtain ⟨l', hK, hw, hf⟩ := putAll_sound (β := β) ps _ _ z1 hps h
        refine ⟨_, _, ?_, yld_new hS hw elem (fun n => .slice n (.lit 0) (.lit len) (.lit len)) rfl (Nat.lt_succ_self _) hK (v := .slice (some ⟨w.heap.size, 0, none⟩) len len) (fun γ hγ => ?_)⟩
        · have hlt : ¬ (len * inf.size > 2 ^ 24) := by omega
          have hrow : ((Array.range (len * inf.size)).map (z.cells[· % z.cells.size]!)) = ((zerosB r len).vals β).toArray := by
            have := madeCells_repL z.cells len
            unfold madeCells at this
            rw [z2, h2, ← this, hzsz]
          by_cases h0 : len * inf.size = 0
          · have hrow0 : ((Array.range (len * inf.size)).map ((#[] : Array Value)[· % 0]!)) = ((zerosB r len).vals β).toArray := by
              rw [← hrow, h0]; simp
            simp only [Instr.buildSlice, Sem.run_bind, run_underlying hd, Result.andThen_ok, Go.sizeOf, typeInfo, run_program, hinf, Sem.run_pure, if_neg hlt, if_pos h0]
            simp only [Array.size_empty, hrow0, hf, newRow, run_newObj, Sem.run_bind, Result.andThen_ok, Sem.run_pure]
          · simp only [Instr.buildSlice, Sem.run_bind, run_underlying hd, Result.andThen_ok, Go.sizeOf, typeInfo, run_program, hinf, Sem.run_pure, if_neg hlt, if_neg h0, run_zeroValue hi hzz]
            simp only [hrow, hf, newRow, run_newObj, Sem.run_bind, Result.andThen_ok, Sem.run_pure]
        · simp [SV.val, SV.vals, hγ, Off.den, NE.den]
    · exact h.elim
  · exact h.elim
end
end Vx
