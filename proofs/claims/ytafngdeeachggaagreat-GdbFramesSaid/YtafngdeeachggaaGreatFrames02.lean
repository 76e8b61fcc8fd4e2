/- What this text proves, part by part: New memory: structs and rows built, boxes, slices and maps made. Slices, texts, conversions, the built-in functions. Conversions between texts and bytes, make, append, copy. Rows made, appended to and copied into; maps. append and copy. No condition is added. -/
import Derived.Laws.MakeOwn
import Derived.Deep.AppendSrc
import Derived.Laws.BytesString
import Derived.Laws.IdiomStrings
import Derived.Laws.AppendOwn
import Derived.Test.YtafngdeeachggaaGreatFrames01
set_option linter.unusedVariables false
set_option linter.unusedSimpArgs false
section
/- New memory: structs and rows built, boxes, slices and maps made. -/
namespace Vx
open Go

/-- Rows of zero values that are told apart (arrays, and what holds them). -/
def lookZ (t : TypeId) : List (TypeId × SV) → Option SV
  | [] => none
  | (u, r) :: l => bif Nat.beq u t then some r else lookZ t l
/-- They are the program's. -/
def ZOk (P : Program) (zt : List (TypeId × SV)) : Prop :=
  ∀ e ∈ zt, e.2.wf 0 ∧ ∃ i z, P.info? e.1 = some i ∧ i.zero = some z ∧ e.2.vals [] = z.cells.toList
theorem lookZ_mem {t : TypeId} {r : SV} : ∀ {l}, lookZ t l = some r → (t, r) ∈ l
  | (u, x) :: l, h => by
    simp only [lookZ] at h
    cases hb : Nat.beq u t <;> rw [hb] at h
    · exact List.mem_cons_of_mem _ (lookZ_mem h)
    · have := beq_t hb; subst this; cases h; exact List.mem_cons_self

def zrow (P : Program) (zt : List (TypeId × SV)) (t : TypeId) : Option SV :=
  match lookZ t zt with
  | some r => some r
  | none => match P.info? t with
    | some i => match i.zero with
      | some z => some (ofVs z.cells.toList)
      | none => none
    | none => none

section
variable {P : Program} {F : Fr} {β : List Nat} {hp : Hp} {w : World} {K : SV → Hp → Prop} {zt : List (TypeId × SV)}

theorem zrow_sound (hz : ZOk P zt) {t : TypeId} {r : SV} (h : zrow P zt t = some r) :
    ∃ i z, P.info? t = some i ∧ i.zero = some z ∧ r.wf β.length ∧ r.vals β = z.cells.toList := by
  unfold zrow at h
  split at h
  · rename_i r' hr
    cases h
    obtain ⟨h1, i, z, h2, h3, h4⟩ := hz _ (lookZ_mem hr)
    refine ⟨i, z, h2, h3, SV.wf_mono (Nat.zero_le _) _ h1, ?_⟩
    have := SV.vals_append [] β r (by simpa using h1)
    simpa [h4] using this
  · split at h
    · rename_i i hi
      split at h
      · rename_i z hzz
        cases h
        exact ⟨i, z, hi, hzz, ofVs_wf _ _, ofVs_vals _ _⟩
      · cases h
    · cases h

theorem run_zeroValue {t : TypeId} {i : TypeInfo} {z : Value} (hi : P.info? t = some i) (hz : i.zero = some z) (w : World) : (zeroValue t).run P w = .ok z w := by
  simp [zeroValue, typeInfo, hi, hz]

/-- A new block and its address. -/
theorem yld_new (hS : Sat F β hp w) {l : SV} (hl : l.wf β.length) (el : TypeId) (mk : Nat → SV) (hone : (mk hp.n).one = true) (hwf : (mk hp.n).wf (hp.n + 1))
    (hK : K (mk hp.n) { hp with n := hp.n + 1, H := (hp.n, some (.cells l el false)) :: hp.H }) {v : Value} (hv : ∀ γ : List Nat, blk γ hp.n = w.heap.size → v = (mk hp.n).val γ) :
    Yld F β K v { w with heap := w.heap.push (.cells (l.vals β).toArray el (0, 0)) } := by
  have hn := hS.n
  have := hS.new (.cells l el false) (by rw [hn]; exact SV.wf_mono (Nat.le_succ _) _ hl)
  have hv' := SV.vals_append β [w.heap.size] l hl
  simp only [SObj.den, hv', fzOf, cond_false] at this
  refine ⟨[w.heap.size], mk hp.n, _, this, hone, ?_, hv _ ?_, hK⟩
  · simp only [List.length_append, List.length_singleton, ← hn]; exact hwf
  · simp [blk, hn]

/-- The cells of a value. -/
def cellsOf (x : SV) : SV :=
  match aggOf x with
  | some l => l
  | none => .cons x .nil
theorem cellsOf_sound {x : SV} (h1 : x.one = true) (hw : x.wf β.length) (hne : (aggOf x).isSome = true ∨ x.cell = true) :
    (cellsOf x).wf β.length ∧ (x.val β).cells.toList = (cellsOf x).vals β := by
  unfold cellsOf
  split
  · rename_i l hl
    obtain ⟨e1, e2⟩ := aggOf_sound (β := β) hl hw
    exact ⟨e2, by rw [e1]; rfl⟩
  · rename_i hn
    rw [hn] at hne
    have hc := hne.resolve_left (by simp)
    obtain ⟨c1, _⟩ := SV.cell_sound (β := β) hc
    refine ⟨⟨hw, trivial⟩, ?_⟩
    simp only [SV.vals, SV.vals_one β h1, List.append_nil]
    cases hv : x.val β <;> first | rfl | (rw [hv] at c1; cases c1)
def oneOk (x : SV) : Bool := (aggOf x).isSome || x.cell

def newRowK (l : SV) (el : TypeId) (hp : Hp) (K : SV → Hp → Prop) (mk : Nat → SV) : Prop :=
  K (mk hp.n) { hp with n := hp.n + 1, H := (hp.n, some (.cells l el false)) :: hp.H }

def xAlloc (P : Program) (zt : List (TypeId × SV)) (t : TypeId) (hp : Hp) (K : SV → Hp → Prop) : Prop :=
  match zrow P zt t with
  | some r => newRowK r t hp K (fun n => .ptr n (.lit 0))
  | none => False
theorem xAlloc_sound (hz : ZOk P zt) (hS : Sat F β hp w) {t : TypeId} (h : xAlloc P zt t hp K) : Runs P F β w (Instr.alloc t true (.tuple #[])) K := by
  unfold xAlloc at h
  split at h
  · rename_i r hr
    obtain ⟨i, z, hi, hzz, h1, h2⟩ := zrow_sound (β := β) hz hr
    refine ⟨_, _, ?_, yld_new hS h1 t (fun n => .ptr n (.lit 0)) rfl (Nat.lt_succ_self _) h (v := .pointer (some ⟨w.heap.size, 0, none⟩)) (fun γ hγ => ?_)⟩
    · simp [Instr.alloc, run_zeroValue hi hzz, newVar, newRow, h2]
    · simp [SV.val, SV.vals, hγ, Off.den]
  · exact h.elim

def xBox (t : TypeId) (x : SV) (hp : Hp) (K : SV → Hp → Prop) : Prop :=
  bif oneOk x then newRowK (cellsOf x) t hp K (fun n => .ptr n (.lit 0)) else False
theorem xBox_sound (hS : Sat F β hp w) {t : TypeId} {x : SV} (h1 : x.one = true) (hx : x.wf β.length) (h : xBox t x hp K) : Runs P F β w (Instr.box t (x.val β)) K := by
  unfold xBox at h
  cases hc : oneOk x <;> rw [hc] at h
  · exact h.elim
  · obtain ⟨g1, g2⟩ := cellsOf_sound (β := β) h1 hx (by simpa [oneOk] using hc)
    refine ⟨_, _, ?_, yld_new hS g1 t (fun n => .ptr n (.lit 0)) rfl (Nat.lt_succ_self _) h (v := .pointer (some ⟨w.heap.size, 0, none⟩)) (fun γ hγ => ?_)⟩
    · simp [Instr.box, newVar, newRow, ← g2]
    · simp [SV.val, SV.vals, hγ, Off.den]

/-! ### Parts put into a row -/

/-- The row with a value's cells at a place. -/
def rowPut (l : SV) (o n : Nat) (x : SV) (K : SV → Prop) : Prop :=
  bif x.cell && Nat.beq n 1 then rowSet l o none x K
  else match aggOf x with
    | none => False
    | some r => match rowCut l o with
      | none => False
      | some (p, q) => match rowCut q n with
        | none => False
        | some (_, s) => match r.wid with
          | none => False
          | some m => bif Nat.beq m n then K (p.app (r.app s)) else False

theorem rowPut_sound {l : SV} {o n : Nat} {x : SV} {K : SV → Prop} (hl : l.wf β.length) (h1 : x.one = true) (hx : x.wf β.length) (h : rowPut l o n x K) :
    ∃ l' pre old post, K l' ∧ l'.wf β.length ∧ l.vals β = pre ++ old ++ post ∧ l'.vals β = pre ++ (x.val β).cells.toList ++ post ∧ pre.length = o ∧ old.length = n ∧ (x.val β).cells.size = n := by
  unfold rowPut at h
  cases hc : (x.cell && Nat.beq n 1) <;> rw [hc] at h
  · simp only [cond_false] at h
    split at h
    · exact h.elim
    · rename_i r hr
      split at h
      · exact h.elim
      · rename_i p q hpq
        split at h
        · exact h.elim
        · rename_i m s hms
          split at h
          · exact h.elim
          · rename_i wd hwd
            cases hb : Nat.beq wd n <;> rw [hb] at h
            · exact h.elim
            · have := beq_t hb
              subst this
              obtain ⟨a1, a2⟩ := aggOf_sound (β := β) hr hx
              obtain ⟨e1, e2, e3, e4⟩ := rowCut_sound β l o _ _ hl hpq
              obtain ⟨f1, f2, f3, f4⟩ := rowCut_sound β q wd _ _ e4 hms
              have hlen := SV.wid_len β r a2 wd hwd
              refine ⟨_, p.vals β, m.vals β, s.vals β, h, SV.app_wf _ _ _ e3 (SV.app_wf _ _ _ a2 f4), by rw [e1, f1]; simp, ?_, e2, f2, ?_⟩
              · rw [a1]; simp [SV.app_vals, Value.cells]
              · rw [a1]; simp [Value.cells, hlen]
  · simp only [cond_true] at h
    simp only [Bool.and_eq_true] at hc
    obtain ⟨c1, c2⟩ := SV.cell_sound (β := β) hc.1
    have hn := beq_t hc.2
    subst hn
    obtain ⟨l', k1, k2, k3, k4⟩ := rowSet_sound β x c2 hx l _ _ _ hl h
    simp only [iD, Option.getD_none, Nat.add_zero] at k3 k4
    have hcells : (x.val β).cells = #[x.val β] := by
      cases hv : x.val β <;> first | rfl | (rw [hv] at c1; cases c1)
    refine ⟨l', (l.vals β).take o, [(l.vals β)[o]], (l.vals β).drop (o + 1), k1, k2, ?_, ?_, by simp; omega, rfl, by rw [hcells]; rfl⟩
    · rw [List.append_assoc, List.singleton_append, List.getElem_cons_drop, List.take_append_drop]
    · rw [hcells, k3, List.set_eq_take_append_cons_drop]
      simp [k4]

theorem foldl_set (off : Nat) : ∀ (mid : List Value) (k : Nat) (pre old post : List Value), pre.length = off + k → old.length = mid.length →
    ((mid.zipIdx k).foldl (fun cs (p : Value × Nat) => cs.setIfInBounds (off + p.2) p.1) (pre ++ old ++ post).toArray) = (pre ++ mid ++ post).toArray
  | [], k, pre, old, post, _, hl => by
    have : old = [] := List.eq_nil_of_length_eq_zero hl
    subst this
    rfl
  | v :: mid, k, pre, x :: old, post, hk, hl => by
    simp only [List.zipIdx_cons, List.foldl_cons]
    have h1 : ((pre ++ (x :: old) ++ post).toArray).setIfInBounds (off + k) v = ((pre ++ [v]) ++ old ++ post).toArray := by
      rw [← hk]
      simp
    rw [h1, foldl_set off mid (k + 1) (pre ++ [v]) old post (by simp; omega) (by simpa using hl)]
    simp

theorem fill_put {place : Nat → Option (Nat × Nat)} {i : Nat} {v : Value} {rest : List (Nat × Value)} {off size : Nat} {pre old post : List Value}
    (hp : place i = some (off, size)) (h1 : pre.length = off) (h2 : old.length = size) (h3 : v.cells.size = size) :
    Instr.fill place (pre ++ old ++ post).toArray ((i, v) :: rest) = Instr.fill place (pre ++ v.cells.toList ++ post).toArray rest := by
  have h4 := foldl_set off v.cells.toList 0 pre old post (by omega) (by simp [h2, h3])
  have h5 : ¬ ((decide (v.cells.size ≠ size) || decide (off + v.cells.size > (pre ++ old ++ post).toArray.size)) = true) := by simp; omega
  simp only [Instr.fill, hp]
  rw [if_neg h5]
  congr 1
  rw [← h4]
  rw [← Array.foldl_toList]
  simp

/-- Parts put into a row, each at its place. -/
def putAll (place : Nat → Option (Nat × Nat)) : SV → List (Nat × SV) → (SV → Prop) → Prop
  | l, [], K => K l
  | l, (i, x) :: rest, K =>
    match place i with
    | none => False
    | some (off, size) => rowPut l off size x fun l' => putAll place l' rest K

theorem putAll_sound {place : Nat → Option (Nat × Nat)} : ∀ (ps : List (Nat × SV)) (l : SV) (K : SV → Prop), l.wf β.length → (∀ p ∈ ps, p.2.one = true ∧ p.2.wf β.length) → putAll place l ps K →
    ∃ l', K l' ∧ l'.wf β.length ∧ Instr.fill place (l.vals β).toArray (ps.map fun p => (p.1, p.2.val β)) = some (l'.vals β).toArray
  | [], l, K, hl, _, h => ⟨l, h, hl, rfl⟩
  | (i, x) :: rest, l, K, hl, hps, h => by
    simp only [putAll] at h
    split at h
    · exact h.elim
    · rename_i off size hp
      obtain ⟨h1, h2⟩ := hps _ List.mem_cons_self
      obtain ⟨l', pre, old, post, hK, hw, e1, e2, e3, e4, e5⟩ := rowPut_sound hl h1 h2 h
      obtain ⟨l'', hK', hw', hf⟩ := putAll_sound rest l' K hw (fun p hp => hps p (List.mem_cons_of_mem _ hp)) hK
      refine ⟨l'', hK', hw', ?_⟩
      rw [List.map_cons, e1, fill_put hp e3 e4 e5, ← e2]
      exact hf

def fieldPlace (P : Program) (t : TypeId) (i : Nat) : Option (Nat × Nat) :=
  match fieldOf P t i with
  | some fd => match P.info? fd.type with
    | some inf => some (fd.offset, inf.size)
    | none => none
  | none => none

/-- Have all fields a size? -/
def sizedAll (P : Program) : List Field → Bool
  | [] => true
  | f :: r => (P.info? f.type).isSome && sizedAll P r

def xBuild (P : Program) (zt : List (TypeId × SV)) (t : TypeId) (ps : List (Nat × SV)) (K : SV → Prop) : Prop :=
  match zrow P zt t with
  | none => False
  | some z => match P.underlying t with
    | some (.struct fs) => bif sizedAll P fs.toList then putAll (fieldPlace P t) z ps fun l => K (.agg l) else False
    | some (.array _ elem) => match P.info? elem with
      | some inf => putAll (fun i => some (i * inf.size, inf.size)) z ps fun l => K (.agg l)
      | none => False
    | _ => False

theorem run_places {fs : Array Field} (hs : sizedAll P fs.toList = true) (w : World) :
    (fs.mapM fun f => do pure (f.offset, ← Go.sizeOf f.type) : Sem (Array (Nat × Nat))).run P w = .ok (fs.map fun f => (f.offset, P.cellsOf f.type)) w := by
  rw [Array.mapM_eq_mapM_toList]
  have key : ∀ l : List Field, sizedAll P l = true → (l.mapM fun f => do pure (f.offset, ← Go.sizeOf f.type) : Sem (List (Nat × Nat))).run P w = .ok (l.map fun f => (f.offset, P.cellsOf f.type)) w := by
    intro l
    induction l with
    | nil => intro _; rfl
    | cons f r ih =>
      intro h
      simp only [sizedAll, Bool.and_eq_true] at h
      obtain ⟨i, hi⟩ := Option.isSome_iff_exists.1 h.1
      have h1 : (Go.sizeOf f.type).run P w = .ok i.size w := by simp [Go.sizeOf, typeInfo, hi]
      have h2 : P.cellsOf f.type = i.size := by simp [Program.cellsOf, hi]
      rw [List.mapM_cons]
      simp only [Sem.run_bind, h1, Result.andThen_ok, Sem.run_pure, ih h.2, List.map_cons, h2]
  have h := key fs.toList hs
  show Sem.run P (Functor.map List.toArray _) w = _
  rw [Sem.run_map, h]
  simp only [Result.andThen_ok]
  congr 1
  apply Array.ext'
  simp

theorem xBuild_sound (hz : ZOk P zt) {t : TypeId} {ps : List (Nat × SV)} {K : SV → Prop} (hps : ∀ p ∈ ps, p.2.one = true ∧ p.2.wf β.length) (h : xBuild P zt t ps K) :
    ∃ sv, K sv ∧ sv.one = true ∧ sv.wf β.length ∧ ∀ w, (Instr.build t (ps.map fun p => (p.1, p.2.val β)).toArray).run P w = .ok (sv.val β) w := by
  unfold xBuild at h
  split at h
  · exact h.elim
  · rename_i r hr
    obtain ⟨i, z, hi, hzz, h1, h2⟩ := zrow_sound (β := β) hz hr
    have hcells : z.cells = (r.vals β).toArray := by rw [h2]
    split at h
    · rename_i fs hd
      cases hs : sizedAll P fs.toList <;> rw [hs] at h
      · exact h.elim
      · obtain ⟨l', hK, hw, hf⟩ := putAll_sound (β := β) ps r _ h1 hps h
        refine ⟨_, hK, rfl, hw, fun w => ?_⟩
        have hpl : Instr.fill ((fs.map fun f => (f.offset, P.cellsOf f.type))[·]?) (r.vals β).toArray (ps.map fun p => (p.1, p.2.val β)) = some (l'.vals β).toArray := by
          rw [← hf]
          congr 1
          funext i
          simp only [fieldPlace, fieldOf, hd, Array.getElem?_map]
          cases hfi : fs[i]? with
          | none => rfl
          | some fd =>
            have hmem : ∀ l : List Field, sizedAll P l = true → fd ∈ l → (P.info? fd.type).isSome = true := by
              intro l
              induction l with
              | nil => intro _ h; cases h
              | cons a l ih =>
                intro h hm
                simp only [sizedAll, Bool.and_eq_true] at h
                rcases List.mem_cons.1 hm with rfl | hm
                · exact h.1
                · exact ih h.2 hm
            obtain ⟨inf, hinf⟩ := Option.isSome_iff_exists.1 (hmem _ hs (Array.mem_toList_iff.2 (Array.mem_of_getElem? hfi)))
            simp [hinf, Program.cellsOf]
        simp only [Instr.build, Sem.run_bind, run_zeroValue hi hzz, Result.andThen_ok, run_underlying hd, run_places hs, hcells]
        rw [hpl]
        rfl
    · rename_i n elem hd
      split at h
      · rename_i inf hinf
        obtain ⟨l', hK, hw, hf⟩ := putAll_sound (β := β) ps r _ h1 hps h
        refine ⟨_, hK, rfl, hw, fun w => ?_⟩
        simp only [Instr.build, Sem.run_bind, run_zeroValue hi hzz, Result.andThen_ok, run_underlying hd, hcells, Go.sizeOf, typeInfo, run_program, hinf, Sem.run_pure]
        rw [hf]
        rfl
      · exact h.elim
    · exact h.elim

/-! ### Rows of so many elements -/

/-- A row, so many times. -/
def rep (z : SV) : Nat → SV
  | 0 => .nil
  | n + 1 => z.app (rep z n)
/-- So many zero elements. -/
def zeros (z : SV) (n : Nat) : SV :=
  match z with
  | .cons (.int k (.lit d)) .nil => .cons (.run k (.lit n) (.fill n d [])) .nil
  | z => rep z n
def repL (zs : List Value) : Nat → List Value
  | 0 => []
  | n + 1 => zs ++ repL zs n
theorem rep_vals (z : SV) : ∀ n, (rep z n).vals β = repL (z.vals β) n
  | 0 => rfl
  | n + 1 => by simp [rep, repL, SV.app_vals, rep_vals z n]
theorem rep_wf (z : SV) (m : Nat) (h : z.wf m) : ∀ n, (rep z n).wf m
  | 0 => trivial
  | n + 1 => SV.app_wf _ _ _ h (rep_wf z m h n)
theorem repL_one (v : Value) : ∀ n, repL [v] n = List.replicate n v
  | 0 => rfl
  | n + 1 => by simp [repL, repL_one v n, List.replicate_succ]
theorem zeros_sound (z : SV) (n : Nat) (h : z.wf β.length) : (zeros z n).wf β.length ∧ (zeros z n).vals β = repL (z.vals β) n := by
  unfold zeros
  split
  · rename_i k d
    refine ⟨⟨show (List.replicate n d).length = n by simp, trivial⟩, ?_⟩
    show (List.replicate n d).map (Value.int k) ++ [] = repL [.int k d] n
    rw [repL_one]
    simp
  · exact ⟨rep_wf z _ h n, rep_vals z n⟩

theorem madeCells_repL (z : Array Value) (n : Nat) : madeCells z (n * z.size) = (repL z.toList n).toArray := by
  apply Array.ext'
  unfold madeCells
  induction n with
  | zero => simp [repL]
  | succ n ih =>
    have hs : (n + 1) * z.size = z.size + n * z.size := by rw [Nat.succ_mul]; omega
    have ih' : List.map (fun x => z[x % z.size]!) (List.range (n * z.size)) = repL z.toList n := by
      rw [Array.toList_map, Array.toList_range] at ih; exact ih
    rw [Array.toList_map, Array.toList_range]
    show _ = repL z.toList (n + 1)
    rw [hs, List.range_add, List.map_append, repL]
    congr 1
    · apply List.ext_getElem
      · simp
      · intro i h1 h2
        simp at h1
        simp [Nat.mod_eq_of_lt h1, h1]
    · rw [List.map_map, ← ih']
      apply List.map_congr_left
      intro i _
      simp [Nat.add_mod_left]

/-- A few are written out. -/
def zerosB (z : SV) (n : Nat) : SV := bif Nat.ble n 16 then rep z n else zeros z n
theorem zerosB_sound (z : SV) (n : Nat) (h : z.wf β.length) : (zerosB z n).wf β.length ∧ (zerosB z n).vals β = repL (z.vals β) n := by
  unfold zerosB
  cases Nat.ble n 16
  · exact zeros_sound z n h
  · exact ⟨rep_wf z _ h n, rep_vals z n⟩
def xBuildSlice (P : Program) (zt : List (TypeId × SV)) (t : TypeId) (len : Nat) (ps : List (Nat × SV)) (hp : Hp) (K : SV → Hp → Prop) : Prop :=
  match P.underlying t with
  | some (.slice elem) => match P.info? elem, zrow P zt elem with
    | some inf, some z => bif Nat.ble (len * inf.size) 16777216 && (match z.wid with | some m => Nat.beq m inf.size | none => false) then
        putAll (fun i => some (i * inf.size, inf.size)) (zerosB z len) ps fun l =>
          newRowK l elem hp K (fun n => .slice n (.lit 0) (.lit len) (.lit len)) else False
    | _, _ => False
  | _ => False
theorem xBuildSlice_sound (hz : ZOk P zt) (hS : Sat F β hp w) {t : TypeId} {len : Nat} {ps : List (Nat × SV)} (hps : ∀ p ∈ ps, p.2.one = true ∧ p.2.wf β.length)
    (h : xBuildSlice P zt t len ps hp K) : Runs P F β w (Instr.buildSlice t len (ps.map fun p => (p.1, p.2.val β)).toArray) K := by
  unfold xBuildSlice at h
  split at h
  · rename_i elem hd
    split at h
    · rename_i inf r hinf hr
      cases hc : (Nat.ble (len * inf.size) 16777216 && (match r.wid with | some m => Nat.beq m inf.size | none => false)) <;> rw [hc] at h
      · exact h.elim
      · simp only [cond_true] at h
        simp only [Bool.and_eq_true] at hc
        have hle := Nat.le_of_ble_eq_true hc.1
        obtain ⟨i, z, hi, hzz, h1, h2⟩ := zrow_sound (β := β) hz hr
        obtain rfl : inf = i := by rw [hinf] at hi; exact Option.some.inj hi
        have hzsz : z.cells.size = inf.size := by
          have h3 := hc.2
          split at h3
          · rename_i m hm
            have h4 := SV.wid_len β r h1 m hm
            rw [h2] at h4
            have := beq_t h3
            simp at h4
            omega
          · cases h3
        obtain ⟨z1, z2⟩ := zerosB_sound (β := β) r len h1
        obtain ⟨l', hK, hw, hf⟩ := putAll_sound (β := β) ps _ _ z1 hps h
        refine ⟨_, _, ?_, yld_new hS hw elem (fun n => .slice n (.lit 0) (.lit len) (.lit len)) rfl (Nat.lt_succ_self _) hK (v := .slice (some ⟨w.heap.size, 0, none⟩) len len) (fun γ hγ => ?_)⟩
        · have hlt : ¬ (len * inf.size > 2 ^ 24) := by omega
          have hrow : ((Array.range (len * inf.size)).map (z.cells[· % z.cells.size]!)) = ((zerosB r len).vals β).toArray := by
            have := madeCells_repL z.cells len
            unfold madeCells at this
            rw [z2, h2, ← this, hzsz]
          by_cases h0 : len * inf.size = 0
          · have hrow0 : ((Array.range (len * inf.size)).map ((#[] : Array Value)[· % 0]!)) = ((zerosB r len).vals β).toArray := by
              rw [← hrow, h0]; simp
            simp only [Instr.buildSlice, Sem.run_bind, run_underlying hd, Result.andThen_ok, Go.sizeOf, typeInfo, run_program, hinf, Sem.run_pure, if_neg hlt, if_pos h0]
            simp only [Array.size_empty, hrow0, hf, newRow, run_newObj, Sem.run_bind, Result.andThen_ok, Sem.run_pure]
          · simp only [Instr.buildSlice, Sem.run_bind, run_underlying hd, Result.andThen_ok, Go.sizeOf, typeInfo, run_program, hinf, Sem.run_pure, if_neg hlt, if_neg h0, run_zeroValue hi hzz]
            simp only [hrow, hf, newRow, run_newObj, Sem.run_bind, Result.andThen_ok, Sem.run_pure]
        · simp [SV.val, SV.vals, hγ, Off.den, NE.den]
    · exact h.elim
  · exact h.elim
end
end Vx
end
section
/- Slices, texts, conversions, the built-in functions. -/
namespace Vx
open Go

section
variable {P : Program} {F : Fr} {β : List Nat} {hp : Hp} {w : World} {zt : List (TypeId × SV)}

theorem NE_lit (n : Nat) : (NE.lit n).den = n := rfl
/-! ### Lengths -/
def NE.i : NE → IE
  | .lit n => .lit n
  | .v n => .v n
theorem NE.i_den (n : NE) : n.i.den = (n.den : Int) := by cases n <;> rfl
def IE.n : IE → NE
  | .lit n => .lit n.toNat
  | .v n => .v n.toNat
theorem IE.n_den (e : IE) : e.n.den = e.den.toNat := by cases e <;> rfl
def SE.size : SE → NE
  | .lit s => .lit s.size
  | .v s => .v s.size
theorem SE.size_den (s : SE) : s.size.den = s.den.size := by cases s <;> rfl

def xLen (P : Program) (t : TypeId) (x : SV) (hp : Hp) (K : SV → Prop) : Prop :=
  match P.underlying t, x with
  | some .string, .str s => K (.int .i64 s.size.i)
  | some (.array n _), _ => K (.int .i64 (.lit n))
  | some (.slice _), .nilslice => K (.int .i64 (.lit 0))
  | some (.slice _), .slice _ _ n _ => K (.int .i64 n.i)
  | some (.slice _), .gsl _ n _ => K (.int .i64 n.i)
  | some (.map _ _), .nilmap => K (.int .i64 (.lit 0))
  | some (.map _ _), .map id => (match getB id hp with
    | some (.map es _) => K (.int .i64 (.lit es.length))
    | _ => False)
  | _, _ => False
theorem xLen_sound {t ty : TypeId} {x : SV} {K : SV → Prop} (h : xLen P t x hp K) :
    ∃ sv, K sv ∧ sv.one = true ∧ sv.wf β.length ∧ ∀ w', Sat F β hp w' → (Builtin.len_ #[t] ty #[x.val β]).run P w' = .ok (sv.val β) w' := by
  unfold xLen at h
  split at h
  · rename_i s hd
    exact ⟨_, h, rfl, trivial, fun w' hS' => by simp [Builtin.len_, run_underlying hd, val_str, val_int, goInt, NE.i_den, SE.size_den]⟩
  · rename_i n el hd
    exact ⟨_, h, rfl, trivial, fun w' hS' => by simp [Builtin.len_, run_underlying hd, val_int, goInt, IE.den]⟩
  · rename_i el hd
    exact ⟨_, h, rfl, trivial, fun w' hS' => by simp [Builtin.len_, run_underlying hd, val_int, goInt, IE.den, SV.val, SV.vals]⟩
  · rename_i el id off n cap hd
    exact ⟨_, h, rfl, trivial, fun w' hS' => by simp [Builtin.len_, run_underlying hd, val_int, goInt, NE.i_den, SV.val, SV.vals]⟩
  · rename_i el a n cap hd
    exact ⟨_, h, rfl, trivial, fun w' hS' => by simp [Builtin.len_, run_underlying hd, val_int, goInt, NE.i_den, SV.val, SV.vals]⟩
  · rename_i k el hd
    exact ⟨_, h, rfl, trivial, fun w' hS' => by simp [Builtin.len_, run_underlying hd, val_int, goInt, IE.den, SV.val, SV.vals]⟩
  · rename_i k el id hd
    split at h
    · rename_i es c hg
      refine ⟨_, h, rfl, trivial, fun w' hS' => ?_⟩
      obtain ⟨_, _, g3⟩ := hS'.get hg
      simp [Builtin.len_, run_underlying hd, val_int, goInt, IE.den, SV.val, SV.vals, getObj, Sem.run, g3, SObj.den]
    · exact h.elim
  · exact h.elim

def xLenP (P : Program) (t : TypeId) (x : SV) (K : SV → Prop) : Prop :=
  match P.underlying t, x with
  | some .string, .str s => K (.int .i64 s.size.i)
  | some (.array n _), _ => K (.int .i64 (.lit n))
  | some (.slice _), .nilslice => K (.int .i64 (.lit 0))
  | some (.slice _), .slice _ _ n _ => K (.int .i64 n.i)
  | some (.slice _), .gsl _ n _ => K (.int .i64 n.i)
  | _, _ => False
theorem xLenP_sound {t ty : TypeId} {x : SV} {K : SV → Prop} (h : xLenP P t x K) :
    ∃ sv, K sv ∧ sv.one = true ∧ sv.wf β.length ∧ ∀ w', (Builtin.len_ #[t] ty #[x.val β]).run P w' = .ok (sv.val β) w' := by
  unfold xLenP at h
  split at h
  · rename_i s hd
    exact ⟨_, h, rfl, trivial, fun w' => by simp [Builtin.len_, run_underlying hd, val_str, val_int, goInt, NE.i_den, SE.size_den]⟩
  · rename_i n el hd
    exact ⟨_, h, rfl, trivial, fun w' => by simp [Builtin.len_, run_underlying hd, val_int, goInt, IE.den]⟩
  · rename_i el hd
    exact ⟨_, h, rfl, trivial, fun w' => by simp [Builtin.len_, run_underlying hd, val_int, goInt, IE.den, SV.val, SV.vals]⟩
  · rename_i el id off n cap hd
    exact ⟨_, h, rfl, trivial, fun w' => by simp [Builtin.len_, run_underlying hd, val_int, goInt, NE.i_den, SV.val, SV.vals]⟩
  · rename_i el a n cap hd
    exact ⟨_, h, rfl, trivial, fun w' => by simp [Builtin.len_, run_underlying hd, val_int, goInt, NE.i_den, SV.val, SV.vals]⟩
  · exact h.elim

def xCap (P : Program) (t : TypeId) (x : SV) (K : SV → Prop) : Prop :=
  match P.underlying t, x with
  | some (.array n _), _ => K (.int .i64 (.lit n))
  | some (.slice _), .nilslice => K (.int .i64 (.lit 0))
  | some (.slice _), .slice _ _ _ n => K (.int .i64 n.i)
  | some (.slice _), .gsl _ _ n => K (.int .i64 n.i)
  | _, _ => False
theorem xCap_sound {t ty : TypeId} {x : SV} {K : SV → Prop} (h : xCap P t x K) :
    ∃ sv, K sv ∧ sv.one = true ∧ sv.wf β.length ∧ ∀ w, (Builtin.cap_ #[t] ty #[x.val β]).run P w = .ok (sv.val β) w := by
  unfold xCap at h
  split at h
  · rename_i n el hd
    exact ⟨_, h, rfl, trivial, fun w => by simp [Builtin.cap_, run_underlying hd, val_int, goInt, IE.den]⟩
  · rename_i el hd
    exact ⟨_, h, rfl, trivial, fun w => by simp [Builtin.cap_, run_underlying hd, val_int, goInt, IE.den, SV.val, SV.vals]⟩
  · rename_i el id off n cap hd
    exact ⟨_, h, rfl, trivial, fun w => by simp [Builtin.cap_, run_underlying hd, val_int, goInt, NE.i_den, SV.val, SV.vals]⟩
  · rename_i el a n cap hd
    exact ⟨_, h, rfl, trivial, fun w => by simp [Builtin.cap_, run_underlying hd, val_int, goInt, NE.i_den, SV.val, SV.vals]⟩
  · exact h.elim

def xMinMax (mn : Bool) (x y : SV) (K : SV → Prop) : Prop :=
  match x, y with
  | .int k a, .int _ b => two (fun x y => bif mn then (if y < x then y else x) else (if y > x then y else x)) a b fun e => K (.int k e)
  | _, _ => False
theorem xMin_sound {x y : SV} {K : SV → Prop} (h : xMinMax true x y K) :
    ∃ sv, K sv ∧ sv.one = true ∧ sv.wf β.length ∧ ∀ (ts : Array TypeId) (ty : TypeId) w, (Builtin.min_ ts ty #[x.val β, y.val β]).run P w = .ok (sv.val β) w := by
  unfold xMinMax at h
  split at h
  · obtain ⟨e, he, hK⟩ := two_sound h
    exact ⟨_, hK, rfl, trivial, fun ts ty w => by simp [Builtin.min_, Builtin.min2, val_int, he]⟩
  · exact h.elim
theorem xMax_sound {x y : SV} {K : SV → Prop} (h : xMinMax false x y K) :
    ∃ sv, K sv ∧ sv.one = true ∧ sv.wf β.length ∧ ∀ (ts : Array TypeId) (ty : TypeId) w, (Builtin.max_ ts ty #[x.val β, y.val β]).run P w = .ok (sv.val β) w := by
  unfold xMinMax at h
  split at h
  · obtain ⟨e, he, hK⟩ := two_sound h
    exact ⟨_, hK, rfl, trivial, fun ts ty w => by simp [Builtin.max_, Builtin.max2, val_int, he]⟩
  · exact h.elim

/-! ### One operand -/
def one1 (f : Int → Int) (a : IE) (K : IE → Prop) : Prop :=
  match a with
  | .lit x => K (.lit (f x))
  | .v x => ∀ r : Int, r = f x → K (.v r)
theorem one1_sound {f : Int → Int} {a : IE} {K : IE → Prop} (h : one1 f a K) : ∃ e : IE, e.den = f a.den ∧ K e := by
  cases a
  · exact ⟨_, rfl, h⟩
  · exact ⟨_, rfl, h _ rfl⟩
def xUn (op : UnOp) (x : SV) (K : SV → Prop) : Prop :=
  match op, x with
  | .neg, .int k a => one1 (fun x => k.wrap (0 - x)) a fun e => K (.int k e)
  | .xor, .int k a => one1 (fun x => bits .xor k (if k.signed then -1 else k.max) x) a fun e => K (.int k e)
  | .not, .bool b => K (.bool (notB b))
  | _, _ => False
theorem xUn_sound {op : UnOp} {x : SV} {K : SV → Prop} (h : xUn op x K) :
    ∃ sv, K sv ∧ sv.one = true ∧ sv.wf β.length ∧ ∀ w, (Op.unary op (x.val β)).run P w = .ok (sv.val β) w := by
  unfold xUn at h
  split at h
  · obtain ⟨e, he, hK⟩ := one1_sound h
    exact ⟨_, hK, rfl, trivial, fun w => by simp [Op.unary, Op.intArith, val_int, he]⟩
  · obtain ⟨e, he, hK⟩ := one1_sound h
    refine ⟨_, hK, rfl, trivial, fun w => ?_⟩
    simp only [Op.unary, val_int, he]
    exact run_intBits _ _ _ _ _ (by simp)
  · exact ⟨_, h, rfl, trivial, fun w => by simp [Op.unary, val_bool, notB_den]⟩
  · exact h.elim

def xExtract (x : SV) (i : Nat) (K : SV → Prop) : Prop :=
  match x with
  | .tup l => rowGet l i none K
  | _ => False
theorem xExtract_sound {x : SV} {i : Nat} {K : SV → Prop} (hx : x.wf β.length) (h : xExtract x i K) :
    ∃ sv, K sv ∧ sv.one = true ∧ sv.wf β.length ∧ ∀ w, (Instr.extract (x.val β) i).run P w = .ok (sv.val β) w := by
  unfold xExtract at h
  split at h
  · rename_i l
    obtain ⟨sv, h1, h2, h3, h4⟩ := rowGet_sound β l i none K hx h
    refine ⟨sv, h1, h2, h3, fun w => ?_⟩
    simp only [iD, Option.getD_none, Nat.add_zero] at h4
    simp only [Instr.extract, SV.val, SV.vals, List.headD_cons, List.getElem?_toArray, h4]
    rfl
  · exact h.elim

def plainD (d : TypeDesc) : Bool :=
  match d with
  | .interface _ => false
  | _ => true
def xIface (P : Program) (t : TypeId) (x : SV) (K : SV → Prop) : Prop :=
  match P.underlying t with
  | some d => bif plainD d then K (.iface t x) else False
  | none => False
theorem xIface_sound {t : TypeId} {x : SV} {K : SV → Prop} (h1 : x.one = true) (hx : x.wf β.length) (h : xIface P t x K) :
    ∃ sv, K sv ∧ sv.one = true ∧ sv.wf β.length ∧ ∀ w, (Instr.makeInterface t (x.val β)).run P w = .ok (sv.val β) w := by
  unfold xIface at h
  split at h
  · rename_i d hd
    cases hp : plainD d <;> rw [hp] at h
    · exact h.elim
    · refine ⟨_, h, rfl, hx, fun w => ?_⟩
      simp only [Instr.makeInterface, Sem.run_bind, run_underlying hd, Result.andThen_ok]
      cases d <;> first | rfl | cases hp
  · exact h.elim

/-! ### Slices of slices and texts -/

/-- A bound, or what stands for it. -/
def bnd (x : Option SV) (d : NE) (K : NE → Prop) : Prop :=
  match x with
  | none => K d
  | some (.int _ e) => K e.n
  | _ => False
def leE (e : IE) (n : NE) (K : Prop) : Prop :=
  match e, n with
  | .lit a, .lit m => bif decide (0 ≤ a ∧ a ≤ (m : Int)) then K else False
  | e, n => (0 ≤ e.den ∧ e.den ≤ (n.den : Int)) ∧ ((0 ≤ e.den ∧ e.den ≤ (n.den : Int)) → K)
theorem leE_sound {e : IE} {n : NE} {K : Prop} (h : leE e n K) : 0 ≤ e.den ∧ e.den ≤ (n.den : Int) ∧ K := by
  unfold leE at h
  split at h
  · rename_i a m
    cases hd : decide (0 ≤ a ∧ a ≤ (m : Int)) <;> rw [hd] at h
    · exact h.elim
    · have := of_decide_eq_true hd
      exact ⟨this.1, this.2, h⟩
  · exact ⟨h.1.1, h.1.2, h.2 h.1⟩
/-- 0 ≤ i and i ≤ n, by literals where they are. -/
def leI (x : Option SV) (n : NE) (K : Prop) : Prop :=
  match x with
  | none => K
  | some (.int _ e) => leE e n K
  | _ => False
theorem leI_some {x : SV} {n : NE} {K : Prop} (h : leI (some x) n K) : ∃ k e, x = .int k e ∧ 0 ≤ e.den ∧ e.den ≤ (n.den : Int) ∧ K := by
  cases x <;> first | exact h.elim | skip
  rename_i k e
  obtain ⟨h1, h2, h3⟩ := leE_sound h
  exact ⟨k, e, rfl, h1, h2, h3⟩
/-- Is a number at most another one? -/
def leN (a b : NE) (K : Prop) : Prop :=
  match a, b with
  | .lit x, .lit y => bif Nat.ble x y then K else False
  | a, b => a.den ≤ b.den ∧ (a.den ≤ b.den → K)
theorem leN_sound {a b : NE} {K : Prop} (h : leN a b K) : a.den ≤ b.den ∧ K := by
  unfold leN at h
  split at h
  · rename_i x y
    cases hb : Nat.ble x y <;> rw [hb] at h
    · exact h.elim
    · exact ⟨Nat.le_of_ble_eq_true hb, h⟩
  · exact ⟨h.1, h.2 h.1⟩

def subN (a b : NE) : NE :=
  match a, b with
  | .lit x, .lit y => .lit (x - y)
  | a, b => .v (a.den - b.den)
theorem subN_den (a b : NE) : (subN a b).den = a.den - b.den := by unfold subN; split <;> rfl

theorem run_sliceBound {x : SV} {n : NE} {K : Prop} (h : leI (some x) n K) (code : BoundsCode) : ∃ e : IE, (∃ k, x = .int k e) ∧ e.den.toNat ≤ n.den ∧ K ∧ ∀ w, (Instr.sliceBound (x.val β) n.den code).run P w = .ok e.den.toNat w := by
  obtain ⟨k, e, rfl, h1, h2, hK⟩ := leI_some h
  refine ⟨e, ⟨k, rfl⟩, by omega, hK, fun w => ?_⟩
  simp [Instr.sliceBound, val_int, asIntOf, h1, h2]

/-- The bounds of a slice expression, checked: low, high, the new capacity's end. -/
def xBounds (len cap : NE) (lo hi mx : Option SV) (K : NE → NE → NE → Prop) : Prop :=
  leI mx cap <| bnd mx cap fun m =>
    leI hi m <| bnd hi len fun h =>
      leI lo h <| bnd lo (.lit 0) fun l => (match hi, mx with | none, some _ => False | _, _ => K l h m)

theorem xBounds_sound {b : Bool} {len cap : NE} {lo hi mx : Option SV} {K : NE → NE → NE → Prop} (hlc : len.den ≤ cap.den) (h : xBounds len cap lo hi mx K) :
    ∃ l h' m, K l h' m ∧ l.den ≤ h'.den ∧ h'.den ≤ m.den ∧ m.den ≤ cap.den ∧
      ∀ w, (Instr.sliceBounds b len.den cap.den (lo.map (SV.val β)) (hi.map (SV.val β)) (mx.map (SV.val β))).run P w = .ok (l.den, h'.den, m.den) w := by
  unfold xBounds at h
  cases mx with
  | none =>
    cases hi with
    | none =>
      cases lo with
      | none => exact ⟨_, _, _, h, Nat.zero_le _, hlc, Nat.le_refl _, fun w => rfl⟩
      | some z =>
        obtain ⟨d, ⟨k, rfl⟩, h1, h2, h3⟩ := run_sliceBound (β := β) (P := P) (n := len) h .sliceB
        refine ⟨d.n, len, cap, h2, by rw [IE.n_den]; exact h1, hlc, Nat.le_refl _, fun w => ?_⟩
        simp [Instr.sliceBounds, h3, IE.n_den]
    | some x =>
      obtain ⟨e, ⟨k, rfl⟩, g1, g2, g3⟩ := run_sliceBound (β := β) (P := P) (n := cap) h (if b then .sliceAcap else .sliceAlen)
      cases lo with
      | none => exact ⟨.lit 0, e.n, cap, g2, Nat.zero_le _, by rw [IE.n_den]; exact g1, Nat.le_refl _, fun w => by simp [Instr.sliceBounds, g3, IE.n_den, NE_lit]⟩
      | some z =>
        obtain ⟨d, ⟨k, rfl⟩, h1, h2, h3⟩ := run_sliceBound (β := β) (P := P) (n := e.n) g2 .sliceB
        rw [IE.n_den] at h1 h3
        exact ⟨d.n, e.n, cap, h2, by rw [IE.n_den, IE.n_den]; exact h1, by rw [IE.n_den]; exact g1, Nat.le_refl _, fun w => by simp [Instr.sliceBounds, g3, h3, IE.n_den]⟩
  | some y =>
    obtain ⟨f, ⟨k', rfl⟩, f1, f2, f3⟩ := run_sliceBound (β := β) (P := P) (n := cap) h (if b then .slice3Acap else .slice3Alen)
    cases hi with
    | none =>
      cases lo with
      | none => exact f2.elim
      | some z =>
        obtain ⟨d, ⟨k, rfl⟩, h1, h2, h3⟩ := run_sliceBound (β := β) (P := P) (n := len) f2 .sliceB
        exact h2.elim
    | some x =>
      obtain ⟨e, ⟨k, rfl⟩, g1, g2, g3⟩ := run_sliceBound (β := β) (P := P) (n := f.n) f2 .slice3B
      rw [IE.n_den] at g1 g3
      cases lo with
      | none => exact ⟨.lit 0, e.n, f.n, g2, Nat.zero_le _, by rw [IE.n_den, IE.n_den]; exact g1, by rw [IE.n_den]; exact f1, fun w => by simp [Instr.sliceBounds, f3, g3, IE.n_den, NE_lit]⟩
      | some z =>
        obtain ⟨d, ⟨k, rfl⟩, h1, h2, h3⟩ := run_sliceBound (β := β) (P := P) (n := e.n) g2 .slice3C
        rw [IE.n_den] at h1 h3
        exact ⟨d.n, e.n, f.n, h2, by rw [IE.n_den, IE.n_den]; exact h1, by rw [IE.n_den, IE.n_den]; exact g1, by rw [IE.n_den]; exact f1, fun w => by simp [Instr.sliceBounds, f3, g3, h3, IE.n_den]⟩

/-- The place where a slice of a slice begins: it stays where nothing is behind it. -/
def cutOff (off : Off) (l m : NE) (s : Nat) (K : Off → Prop) : Prop :=
  match l, m with
  | .lit 0, _ => K off
  | .lit a, .lit b => K (bif Nat.beq b a then off else off.add (a * s))
  | l, m => ∀ r : Nat, (m.den ≠ l.den → r = l.den) → (m.den = l.den → r = 0) → K (off.idx (.v r) s)
theorem cutOff_sound {off : Off} {l m : NE} {s : Nat} {K : Off → Prop} (h : cutOff off l m s K) : ∃ o : Off, K o ∧ o.den = if m.den = l.den then off.den else off.den + l.den * s := by
  unfold cutOff at h
  split at h
  · exact ⟨off, h, by simp [NE.den]⟩
  · rename_i a b _
    refine ⟨_, h, ?_⟩
    cases hb : Nat.beq b a
    · simp [NE.den, beq_f hb, Off.add_den]
    · simp [NE.den, beq_t hb]
  · have := h (if m.den = l.den then 0 else l.den) (fun h => by simp [h]) (fun h => by simp [h])
    refine ⟨_, this, ?_⟩
    rw [Off.idx_den]
    split <;> simp [IE.den]

def cutS (s : SE) (l h : NE) (K : SE → Prop) : Prop :=
  match s, l, h with
  | .lit s, .lit a, .lit b => K (.lit (s.extract a b))
  | s, l, h => ∀ r : ByteArray, r = s.den.extract l.den h.den → K (.v r)
theorem cutS_sound {s : SE} {l h : NE} {K : SE → Prop} (hh : cutS s l h K) : ∃ e : SE, e.den = s.den.extract l.den h.den ∧ K e := by
  unfold cutS at hh
  split at hh
  · exact ⟨_, rfl, hh⟩
  · exact ⟨_, rfl, hh _ rfl⟩

def xSlice (P : Program) (t : TypeId) (x : SV) (lo hi mx : Option SV) (K : SV → Prop) : Prop :=
  match P.underlying t, x with
  | some .string, .str s => (match mx with
    | none => xBounds s.size s.size lo hi none fun l h _ => cutS s l h fun e => K (.str e)
    | some _ => False)
  | some (.slice el), .slice id off len cap => (match P.info? el with
    | some inf => leN len cap <| xBounds len cap lo hi mx fun l h m => cutOff off l m inf.size fun o => K (.slice id o (subN h l) (subN m l))
    | none => False)
  | some (.slice el), .gsl a len cap => (match P.info? el with
    | some inf => leN len cap <| xBounds len cap lo hi mx fun l h m => ∀ a', a' = (if m.den = l.den then a else a.map (·.add (l.den * inf.size))) → K (.gsl a' (subN h l) (subN m l))
    | none => False)
  | some (.slice el), .nilslice => (match P.info? el with
    | some _ => xBounds (.lit 0) (.lit 0) lo hi mx fun _ _ _ => K .nilslice
    | none => False)
  | some (.array n el), .ptr id off => (match P.info? el with
    | some inf => xBounds (.lit n) (.lit n) lo hi mx fun l h m => cutOff off l m inf.size fun o => K (.slice id o (subN h l) (subN m l))
    | none => False)
  | _, _ => False

theorem xSlice_sound {t : TypeId} {x : SV} {lo hi mx : Option SV} {K : SV → Prop} (hx : x.wf β.length) (h : xSlice P t x lo hi mx K) :
    ∃ sv, K sv ∧ sv.one = true ∧ sv.wf β.length ∧ ∀ w, (Instr.sliceAt t (x.val β) (lo.map (SV.val β)) (hi.map (SV.val β)) (mx.map (SV.val β))).run P w = .ok (sv.val β) w := by
  unfold xSlice at h
  split at h
  · rename_i s hd
    split at h
    · obtain ⟨l, h', m, hK, _, _, _, hr⟩ := xBounds_sound (β := β) (P := P) (b := false) (Nat.le_refl _) h
      obtain ⟨e, he, hK⟩ := cutS_sound hK
      refine ⟨_, hK, rfl, trivial, fun w => ?_⟩
      rw [SE.size_den] at hr
      simp only [Option.map_none] at hr ⊢
      simp [Instr.sliceAt, Instr.slice, run_underlying hd, val_str, hr, he]
    · exact h.elim
  · rename_i el id off len cap hd
    split at h
    · rename_i inf hi'
      obtain ⟨hlc, h⟩ := leN_sound h
      obtain ⟨l, h', m, hK, h1, h2, h3, hr⟩ := xBounds_sound (β := β) (P := P) (b := true) hlc h
      obtain ⟨o, hK, ho⟩ := cutOff_sound hK
      refine ⟨_, hK, rfl, hx, fun w => ?_⟩
      have hv : (SV.slice id off len cap).val β = .slice (some ⟨blk β id, off.den, none⟩) len.den cap.den := rfl
      rw [hv]
      simp only [Instr.sliceAt, Instr.slice, Sem.run_bind, run_underlying hd, Result.andThen_ok, hr, Go.sizeOf, typeInfo, run_program, hi', Sem.run_pure]
      simp only [SV.val, SV.vals, List.headD_cons, subN_den, ho]
      split <;> simp [addr_add]
    · exact h.elim
  · rename_i el a len cap hd
    split at h
    · rename_i inf hi'
      obtain ⟨hlc, h⟩ := leN_sound h
      obtain ⟨l, h', m, hK, h1, h2, h3, hr⟩ := xBounds_sound (β := β) (P := P) (b := true) hlc h
      refine ⟨_, hK _ rfl, rfl, trivial, fun w => ?_⟩
      have hv : (SV.gsl a len cap).val β = .slice a len.den cap.den := rfl
      rw [hv]
      simp only [Instr.sliceAt, Instr.slice, Sem.run_bind, run_underlying hd, Result.andThen_ok, hr, Go.sizeOf, typeInfo, run_program, hi', Sem.run_pure]
      simp only [SV.val, SV.vals, List.headD_cons, subN_den]
    · exact h.elim
  · rename_i el hd
    split at h
    · rename_i inf hi'
      obtain ⟨l, h', m, hK, h1, h2, h3, hr⟩ := xBounds_sound (β := β) (P := P) (b := true) (Nat.le_refl _) h
      refine ⟨_, hK, rfl, trivial, fun w => ?_⟩
      have hv : (SV.nilslice).val β = .slice none 0 0 := rfl
      rw [NE_lit] at hr h3
      have hm : m.den = 0 := by omega
      have hh : h'.den = 0 := by omega
      have hl : l.den = 0 := by omega
      rw [hv]
      simp [Instr.sliceAt, Instr.slice, run_underlying hd, hr, Go.sizeOf, typeInfo, hi', hm, hh, hl]
    · exact h.elim
  · rename_i n el id off hd
    split at h
    · rename_i inf hi'
      obtain ⟨l, h', m, hK, h1, h2, h3, hr⟩ := xBounds_sound (β := β) (P := P) (b := false) (Nat.le_refl _) h
      obtain ⟨o, hK, ho⟩ := cutOff_sound hK
      refine ⟨_, hK, rfl, hx, fun w => ?_⟩
      have hv : (SV.ptr id off).val β = .pointer (some ⟨blk β id, off.den, none⟩) := rfl
      rw [hv]
      rw [NE_lit] at hr
      simp only [Instr.sliceAt, Sem.run_bind, run_underlying hd, Result.andThen_ok, Instr.sureAddr, hr, Go.sizeOf, typeInfo, run_program, hi', Sem.run_pure]
      simp only [SV.val, SV.vals, List.headD_cons, subN_den, ho]
      split <;> simp [addr_add]
    · exact h.elim
  · exact h.elim
end
end Vx
end
section
/- Conversions between texts and bytes, make, append, copy. -/
namespace Vx
open Go

/-- A literal text's bytes, each told. -/
def litRow : List UInt8 → SV
  | [] => .nil
  | b :: r => .cons (.int .u8 (.lit b.toNat)) (litRow r)
/-- The text of bytes. -/
def strOf (ns : List Int) : ByteArray := ns.foldl (fun r n => r.push (UInt8.ofNat n.toNat)) ByteArray.empty
def bytesOf (s : ByteArray) : List Int := s.data.toList.map fun b => (b.toNat : Int)

/-- The integers of a row of one kind. -/
def intsD (k : IntKind) : SV → Option (List Int)
  | .nil => some []
  | .cons h t => match h, intsD k t with
    | .int k' e, some r => bif decide (k = k') then some (e.den :: r) else none
    | .run k' _ xs, some r => bif decide (k = k') then some (xs.den ++ r) else none
    | _, _ => none
  | _ => none
/-- The same, where all are literals. -/
def litsOf (k : IntKind) : SV → Option (List Int)
  | .nil => some []
  | .cons h t => match h, litsOf k t with
    | .int k' (.lit n), some r => bif decide (k = k') then some (n :: r) else none
    | _, _ => none
  | _ => none

section
variable {P : Program} {F : Fr} {β : List Nat} {hp : Hp} {w : World} {zt : List (TypeId × SV)} {K : SV → Hp → Prop}

theorem litRow_vals : ∀ l : List UInt8, (litRow l).vals β = l.map fun b => Value.int .u8 b.toNat
  | [] => rfl
  | b :: r => by
    show [Value.int .u8 b.toNat] ++ (litRow r).vals β = _
    rw [litRow_vals r]; rfl
theorem litRow_wf (n : Nat) : ∀ l : List UInt8, (litRow l).wf n
  | [] => trivial
  | b :: r => ⟨trivial, litRow_wf n r⟩
theorem litRow_cells : ∀ l : List UInt8, (litRow l).cells = true
  | [] => rfl
  | b :: r => by simp [litRow, SV.cells, SV.cell, litRow_cells r]

theorem intsD_vals {k : IntKind} : ∀ (r : SV) (ns : List Int), intsD k r = some ns → r.vals β = ns.map (Value.int k) := by
  intro r
  induction r with
  | nil => intro ns h; cases h; rfl
  | cons a t _ iht =>
    intro ns h
    simp only [intsD] at h
    split at h
    · rename_i k' e r hr _
      cases hd : decide (k = k') <;> rw [hd] at h
      · cases h
      · have := of_decide_eq_true hd
        subst this
        cases h
        simp [SV.vals, iht _ hr]
    · rename_i k' n xs r hr _
      cases hd : decide (k = k') <;> rw [hd] at h
      · cases h
      · have := of_decide_eq_true hd
        subst this
        cases h
        simp [SV.vals, iht _ hr]
    · cases h
  | _ => intro ns h; cases h
theorem litsOf_vals {k : IntKind} : ∀ (r : SV) (ns : List Int), litsOf k r = some ns → r.vals β = ns.map (Value.int k) := by
  intro r
  induction r with
  | nil => intro ns h; cases h; rfl
  | cons a t _ iht =>
    intro ns h
    simp only [litsOf] at h
    split at h
    · rename_i k' e r hr _
      cases hd : decide (k = k') <;> rw [hd] at h
      · cases h
      · have := of_decide_eq_true hd
        subst this
        cases h
        simp [SV.vals, iht _ hr, IE.den]
    · cases h
  | _ => intro ns h; cases h

/-! ### What is appended, copied or converted: its cells -/

def mulN (n : NE) (s : Nat) : NE :=
  match n with
  | .lit a => .lit (a * s)
  | .v a => bif Nat.beq s 1 then .v a else .v (a * s)
theorem mulN_den (n : NE) (s : Nat) : (mulN n s).den = n.den * s := by
  cases n
  · rfl
  · simp only [mulN]
    cases h : Nat.beq s 1
    · rfl
    · rw [beq_t h]; simp [NE.den]
def addN (a b : NE) : NE :=
  match a, b with
  | .lit x, .lit y => .lit (x + y)
  | .lit 0, b => b
  | a, .lit 0 => a
  | a, b => .v (a.den + b.den)
theorem addN_den (a b : NE) : (addN a b).den = a.den + b.den := by unfold addN; split <;> simp [NE.den]

/-- A slice's cells out of a row. -/
def rowSrc (l : SV) (off : Off) (len : NE) (s : Nat) (K : SV → Prop) : Prop :=
  match (match off, len with
    | .lit o, .lit n => (match rowCut l o with
      | some (_, b) => (match rowCut b (n * s) with
        | some (c, _) => some c
        | none => none)
      | none => none)
    | _, _ => none) with
  | some c => K c
  | none =>
    match l with
    | .cons (.run k m xs) _ => bif Nat.beq s 1 then
        off.den + len.den ≤ m.den ∧ (off.den + len.den ≤ m.den → ∀ ys : List Int, ys = (xs.den.drop off.den).take len.den → K (.cons (.run k len (.list ys)) .nil))
      else False
    | _ => False

theorem rowSrc_sound {l : SV} {off : Off} {len : NE} {s : Nat} {K : SV → Prop} (hl : l.wf β.length) (h : rowSrc l off len s K) :
    ∃ c pre post, K c ∧ c.wf β.length ∧ l.vals β = pre ++ c.vals β ++ post ∧ pre.length = off.den ∧ (c.vals β).length = len.den * s := by
  unfold rowSrc at h
  split at h
  · rename_i c hc
    split at hc
    · rename_i o n
      split at hc
      · rename_i a b hab
        split at hc
        · rename_i c' d hcd
          cases hc
          obtain ⟨e1, e2, e3, e4⟩ := rowCut_sound β l o _ _ hl hab
          obtain ⟨f1, f2, f3, f4⟩ := rowCut_sound β b _ _ _ e4 hcd
          exact ⟨_, a.vals β, d.vals β, h, f3, by rw [e1, f1]; simp, e2, f2⟩
        · cases hc
      · cases hc
    · cases hc
  · split at h
    · rename_i k m xs t _
      cases hb : Nat.beq s 1 <;> rw [hb] at h
      · exact h.elim
      · have := beq_t hb
        subst this
        obtain ⟨h0, h⟩ := h
        have hlen : xs.den.length = m.den := hl.1
        refine ⟨_, (xs.den.take off.den).map (.int k), (xs.den.drop (off.den + len.den)).map (.int k) ++ t.vals β, h h0 _ rfl, ⟨?_, trivial⟩, ?_, ?_, ?_⟩
        · show ((xs.den.drop off.den).take len.den).length = len.den
          simp; omega
        · show xs.den.map (Value.int k) ++ t.vals β = (xs.den.take off.den).map (Value.int k) ++ (((xs.den.drop off.den).take len.den).map (Value.int k) ++ []) ++ ((xs.den.drop (off.den + len.den)).map (.int k) ++ t.vals β)
          have : xs.den = xs.den.take off.den ++ ((xs.den.drop off.den).take len.den ++ xs.den.drop (off.den + len.den)) := by
            rw [← List.drop_drop, List.take_append_drop, List.take_append_drop]
          conv => lhs; rw [this]
          simp
        · simp; omega
        · show (((xs.den.drop off.den).take len.den).map (Value.int k) ++ []).length = len.den * 1
          simp; omega
    · exact h.elim

/-- The cells of what is appended; how many elements. -/
def xSrc (P : Program) (tx : TypeId) (s : Nat) (x : SV) (hp : Hp) (K : SV → NE → Prop) : Prop :=
  match P.underlying tx, x with
  | some (.slice _), .nilslice => K .nil (.lit 0)
  | some (.slice _), .slice id off len _ => (match getRow id hp with
    | some (l, _, _) => rowSrc l off len s fun c => bif c.cells then K c len else False
    | none => False)
  | some (.slice el), .gsl a len _ => bif Nat.beq s 1 then (match P.underlying el with
      | some (.int k) => ∃ ys : List Int, ys.length = len.den ∧ RdS hp.G a len.den (ys.map (.int k)) ∧ K (.cons (.run k len (.list ys)) .nil) len
      | _ => False)
    else ∃ vs : List Value, vs.length = len.den * s ∧ (∀ v ∈ vs, v.oneCell' = true) ∧ RdS hp.G a len.den vs ∧ K (.cons (.blob (.v (len.den * s)) vs) .nil) len
  | some .string, .str (.lit b) => bif Nat.beq s 1 then K (litRow b.data.toList) (.lit b.size) else False
  | some .string, .str (.v b) => bif Nat.beq s 1 then K (.cons (.run .u8 (.v b.size) (.list (bytesOf b))) .nil) (.v b.size) else False
  | _, _ => False

theorem bytesOf_length (b : ByteArray) : (bytesOf b).length = b.size := by
  unfold bytesOf
  rw [List.length_map, Array.length_toList]
  rfl

/-- What 'xSrc' says. -/
structure SrcOk (P : Program) (β : List Nat) (s : Nat) (tx : TypeId) (x : SV) (w : World) (r : SV) (n : NE) : Prop where
  wf : r.wf β.length
  cells : ∀ v ∈ r.vals β, v.oneCell' = true
  src : Src P s tx (x.val β) n.den (r.vals β) w
  part : ∀ m, m ≤ n.den → (Builtin.firstCells s m (x.val β)).run P w = .ok ((r.vals β).take (m * s)).toArray w

theorem firstCells_part {s n : Nat} {a : Addr} {len cap m : Nat} {cs : List Value} (hl : cs.length = n * s) (h : ∀ j v, cs[j]? = some v → w.cell? (a.add j) = some v) (hm : m ≤ n) :
    (Builtin.firstCells s m (.slice (some a) len cap)).run P w = .ok (cs.take (m * s)).toArray w := by
  have hle : m * s ≤ n * s := Nat.mul_le_mul_right _ hm
  refine run_firstCells_some _ _ _ _ _ _ _ (by rw [List.length_take]; omega) (fun j v hj => h j v ?_)
  have hlt : j < (cs.take (m * s)).length := (List.getElem?_eq_some_iff.1 hj).1
  rw [List.length_take] at hlt
  rw [List.getElem?_take] at hj
  rw [if_pos (by omega)] at hj
  exact hj
theorem firstCells_str (b : ByteArray) (m : Nat) (hm : m ≤ b.size) : (Builtin.firstCells 1 m (.string b)).run P w = .ok ((byteCells b).take (m * 1)).toArray w := by
  simp only [Builtin.firstCells, Sem.run_pure, byteCells]
  congr 1
  apply Array.ext'
  simp

theorem xSrc_sound (hS : Sat F β hp w) {tx : TypeId} {s : Nat} {x : SV} {K : SV → NE → Prop} (h : xSrc P tx s x hp K) : ∃ r n, K r n ∧ SrcOk P β s tx x w r n := by
  unfold xSrc at h
  split at h
  · rename_i el hd
    exact ⟨_, _, h, trivial, (fun v hv => by cases hv), Src.ofNil w hd 0, fun m _ => by simp [SV.val, SV.vals, Builtin.firstCells]⟩
  · rename_i el id off len cap hd
    split at h
    · rename_i l e z hg
      obtain ⟨g1, g2, g3⟩ := hS.row hg
      obtain ⟨c, pre, post, hK, c1, c2, c3, c4⟩ := rowSrc_sound g2 h
      cases hc : c.cells <;> rw [hc] at hK
      · exact hK.elim
      · have hone := SV.cells_sound c1 hc
        have hcell : ∀ j v, (c.vals β)[j]? = some v → w.cell? (Addr.add ⟨blk β id, off.den, none⟩ j) = some v := by
          intro j v hj
          rw [addr_add, cell_of_row g3, c2]
          have hlt : j < (c.vals β).length := (List.getElem?_eq_some_iff.1 hj).1
          simp only [List.getElem?_toArray]
          rw [List.getElem?_append_left (by simp; omega), List.getElem?_append_right (by omega), ← c3]
          simpa using hj
        exact ⟨_, _, hK, c1, hone, Src.ofSlice w hd ⟨blk β id, off.den, none⟩ len.den cap.den (c.vals β) c4 hcell hone, fun m hm => firstCells_part c4 hcell hm⟩
    · exact h.elim
  · rename_i el a len cap hd
    have key : ∀ (r : SV) (vs : List Value), r.wf β.length → r.vals β = vs → (∀ v ∈ vs, v.oneCell' = true) → vs.length = len.den * s → RdS hp.G a len.den vs → SrcOk P β s tx (.gsl a len cap) w r len := by
      intro r vs hw hv hone hl hr
      subst hv
      rcases hr with ⟨h0, hnil⟩ | ⟨b, o, rfl, hr⟩
      · cases a with
        | none =>
          refine ⟨hw, hone, ?_, ?_⟩
          · show Src P s tx (.slice none len.den cap.den) len.den (r.vals β) w
            rw [hnil, h0]
            exact Src.ofNil w hd _
          · intro m hm
            have : m = 0 := by omega
            subst this
            show (Builtin.firstCells s 0 (.slice none len.den cap.den)).run P w = _
            rw [run_firstCells_none]; simp
        | some ad =>
          have hcell : ∀ j v, (r.vals β)[j]? = some v → w.cell? (ad.add j) = some v := fun j v hj => by rw [hnil] at hj; cases hj
          exact ⟨hw, hone, Src.ofSlice w hd ad len.den cap.den (r.vals β) hl hcell hone, fun m hm => firstCells_part hl hcell hm⟩
      · have hcell : ∀ j v, (r.vals β)[j]? = some v → w.cell? (Addr.add ⟨b, o, none⟩ j) = some v := fun j v hj => Rd.cell hS hr hj
        exact ⟨hw, hone, Src.ofSlice w hd ⟨b, o, none⟩ len.den cap.den (r.vals β) hl hcell hone, fun m hm => firstCells_part hl hcell hm⟩
    cases hb : Nat.beq s 1 <;> rw [hb] at h
    · obtain ⟨vs, h1, h2, h3, hK⟩ := h
      exact ⟨_, _, hK, key _ vs ⟨⟨h1, h2⟩, trivial⟩ (by simp [SV.vals]) h2 h1 h3⟩
    · have := beq_t hb
      subst this
      simp only [cond_true] at h
      split at h
      · rename_i k hk
        obtain ⟨ys, h1, h2, hK⟩ := h
        refine ⟨_, _, hK, key _ (ys.map (.int k)) ⟨h1, trivial⟩ (by simp [SV.vals, IL.den]) ?_ (by simp [h1]) h2⟩
        intro v hv
        obtain ⟨y, _, rfl⟩ := List.mem_map.1 hv
        rfl
      · exact h.elim
  · rename_i b hd
    cases hb : Nat.beq s 1 <;> rw [hb] at h
    · exact h.elim
    · have := beq_t hb
      subst this
      have hv : (litRow b.data.toList).vals β = byteCells b := litRow_vals _
      refine ⟨_, _, h, litRow_wf _ _, SV.cells_sound (litRow_wf _ _) (litRow_cells _), ?_, ?_⟩
      · rw [hv]
        exact Src.ofString w hd b
      · rw [hv]
        exact fun m hm => firstCells_str b m hm
  · rename_i b hd
    cases hb : Nat.beq s 1 <;> rw [hb] at h
    · exact h.elim
    · have := beq_t hb
      subst this
      have hv : (SV.cons (.run .u8 (.v b.size) (.list (bytesOf b))) .nil).vals β = byteCells b := by
        show (bytesOf b).map (Value.int .u8) ++ [] = _
        simp [bytesOf, byteCells]
      have hw : (SV.cons (.run .u8 (.v b.size) (.list (bytesOf b))) .nil).wf β.length := ⟨bytesOf_length b, trivial⟩
      refine ⟨_, _, h, hw, SV.cells_sound hw rfl, ?_, ?_⟩
      · rw [hv]
        exact Src.ofString w hd b
      · rw [hv]
        exact fun m hm => firstCells_str b m hm
  · exact h.elim

/-! ### Conversions -/

/-- Conversions that only compute. -/
def xConvP (P : Program) (src dst : TypeId) (x : SV) (K : SV → Prop) : Prop :=
  match P.underlying src, P.underlying dst, x with
  | some _, some (.int k), .int _ e => one1 k.wrap e fun e => K (.int k e)
  | some _, some .string, .str s => K (.str s)
  | some (.slice e), some .string, .nilslice => (match P.underlying e with
    | some (.int .u8) => K (.str (.lit .empty))
    | _ => False)
  | _, _, _ => False
theorem xConvP_sound {src dst : TypeId} {x : SV} {K : SV → Prop} (h : xConvP P src dst x K) :
    ∃ sv, K sv ∧ sv.one = true ∧ sv.wf β.length ∧ ∀ w, (convert src dst (x.val β)).run P w = .ok (sv.val β) w := by
  unfold xConvP at h
  split at h
  · rename_i ds k k' e hs hd
    obtain ⟨e', he, hK⟩ := one1_sound h
    refine ⟨_, hK, rfl, trivial, fun w => ?_⟩
    simp [convert, run_underlying hs, run_underlying hd, val_int, Conv.intToInt, he]
  · rename_i ds s hs hd
    refine ⟨_, h, rfl, trivial, fun w => ?_⟩
    simp only [convert, Sem.run_bind, run_underlying hs, run_underlying hd, Result.andThen_ok, val_str]
    cases ds <;> rfl
  · rename_i e hs hd
    split at h
    · rename_i he
      refine ⟨_, h, rfl, trivial, fun w => ?_⟩
      simp [convert, run_underlying hs, run_underlying hd, run_underlying he, SV.val, SV.vals, Conv.bytesToString, SE.den]
    · exact h.elim
  · exact h.elim

/-- Bytes as a text. -/
def xConvB (P : Program) (src dst : TypeId) (x : SV) (hp : Hp) (K : SV → Prop) : Prop :=
  match P.underlying src, P.underlying dst, x with
  | some (.slice e), some .string, .slice id off len _ => (match P.underlying e, getRow id hp with
    | some (.int .u8), some (l, _, _) => rowSrc l off len 1 fun c => (match litsOf .u8 c with
      | some ns => K (.str (.lit (strOf ns)))
      | none => match intsD .u8 c with
        | some ns => ∀ r : ByteArray, r = strOf ns → K (.str (.v r))
        | none => False)
    | _, _ => False)
  | some (.slice e), some .string, .gsl a len _ => (match P.underlying e with
    | some (.int .u8) => ∃ ys : List Int, ys.length = len.den ∧ RdS hp.G a len.den (ys.map (.int .u8)) ∧ ∀ r : ByteArray, r = strOf ys → K (.str (.v r))
    | _ => False)
  | _, _, _ => False
theorem xConvB_sound (hS : Sat F β hp w) {src dst : TypeId} {x : SV} {K : SV → Prop} (h : xConvB P src dst x hp K) :
    ∃ sv, K sv ∧ sv.one = true ∧ sv.wf β.length ∧ ∀ w', Sat F β hp w' → (convert src dst (x.val β)).run P w' = .ok (sv.val β) w' := by
  unfold xConvB at h
  split at h
  · rename_i e id off len cap hs hd
    split at h
    · rename_i l el z he hg
      obtain ⟨g1, g2, _⟩ := hS.row hg
      obtain ⟨c, pre, post, hK, c1, c2, c3, c4⟩ := rowSrc_sound g2 h
      have key : ∀ ns : List Int, c.vals β = ns.map (Value.int .u8) → ∀ w', Sat F β hp w' → (convert src dst ((SV.slice id off len cap).val β)).run P w' = .ok (.string (strOf ns)) w' := by
        intro ns hns w' hS'
        have g3 := (hS'.row hg).2.2
        show (convert src dst (.slice (some ⟨blk β id, off.den, none⟩) len.den cap.den)).run P w' = _
        rw [run_convert_bytes_string w' src dst e _ _ _ hs he hd]
        refine run_bytesToString w' _ _ _ ns ?_
        have hl : len.den = (ns.map (Value.int .u8)).length := by rw [← hns]; omega
        rw [hl, ← hns]
        exact run_loadCells_row g3 pre (c.vals β) post (by rw [c2]) c3.symm
      split at hK
      · rename_i ns hns
        exact ⟨_, hK, rfl, trivial, key ns (litsOf_vals _ _ hns)⟩
      · split at hK
        · rename_i ns hns
          exact ⟨_, hK _ rfl, rfl, trivial, key ns (intsD_vals _ _ hns)⟩
        · exact hK.elim
    · exact h.elim
  · rename_i e a len cap hs hd
    split at h
    · rename_i he
      obtain ⟨ys, h1, h2, hK⟩ := h
      refine ⟨_, hK _ rfl, rfl, trivial, fun w' hS' => ?_⟩
      show (convert src dst (.slice a len.den cap.den)).run P w' = .ok (.string (strOf ys)) w'
      rcases h2 with ⟨h0, hnil⟩ | ⟨b, o, rfl, hr⟩
      · have : ys = [] := by simpa using hnil
        subst this
        rw [h0]
        cases a with
        | some ad =>
          rw [run_convert_bytes_string w' src dst e _ _ _ hs he hd]
          exact run_bytesToString w' _ _ _ [] (run_loadCells_list w' ad [] fun j v hj => by cases hj)
        | none => simp [convert, run_underlying hs, run_underlying hd, run_underlying he, Conv.bytesToString, strOf]
      · rw [run_convert_bytes_string w' src dst e _ _ _ hs he hd]
        refine run_bytesToString w' _ _ _ ys ?_
        rw [← h1]
        have hl : ys.length = (ys.map (Value.int .u8)).length := by simp
        rw [hl]
        exact run_loadCells_list w' ⟨b, o, none⟩ _ fun j v hj => Rd.cell hS' hr hj
    · exact h.elim
  · exact h.elim
end
end Vx
end
section
/- Rows made, appended to and copied into; maps. -/
namespace Vx
open Go

/-- Parts a row before its last piece, where that is a blob. -/
def cutBlob : SV → Option (SV × NE × List Value)
  | .cons (.blob n vs) .nil => some (.nil, n, vs)
  | .cons h t => match cutBlob t with
    | some (p, n, vs) => some (.cons h p, n, vs)
    | none => none
  | _ => none
/-- How many cells a row has. -/
def SV.widN : SV → NE
  | .nil => .lit 0
  | .cons h t => addN h.widN t.widN
  | .run _ n _ => n
  | .blob n _ => n
  | _ => .lit 1
/-- Two numbers, alike. -/
def eqN (a b : NE) (K : Prop) : Prop :=
  match a, b with
  | .lit x, .lit y => bif Nat.beq x y then K else False
  | a, b => a.den = b.den ∧ (a.den = b.den → K)
theorem eqN_sound {a b : NE} {K : Prop} (h : eqN a b K) : a.den = b.den ∧ K := by
  unfold eqN at h
  split at h
  · rename_i x y
    cases hb : Nat.beq x y <;> rw [hb] at h
    · exact h.elim
    · exact ⟨beq_t hb, h⟩
  · exact ⟨h.1, h.2 h.1⟩

theorem oneCell_mem_repL {zs : List Value} (h : ∀ v ∈ zs, v.oneCell' = true) : ∀ n, ∀ v ∈ repL zs n, v.oneCell' = true
  | 0, v, hv => by cases hv
  | n + 1, v, hv => by
    rcases List.mem_append.1 hv with hv | hv
    · exact h v hv
    · exact oneCell_mem_repL h n v hv
theorem repL_length (zs : List Value) : ∀ n, (repL zs n).length = n * zs.length
  | 0 => by simp [repL]
  | n + 1 => by simp [repL, repL_length zs n, Nat.succ_mul, Nat.add_comm]
theorem repL_add (zs : List Value) (a b : Nat) : repL zs (a + b) = repL zs a ++ repL zs b := by
  induction a with
  | zero => simp [repL]
  | succ a ih => rw [Nat.succ_add]; simp [repL, ih]

theorem NE_v (n : Nat) : (NE.v n).den = n := rfl
section
variable {P : Program} {F : Fr} {β : List Nat} {hp : Hp} {w : World} {zt : List (TypeId × SV)} {K : SV → Hp → Prop}

theorem SV.widN_len (x : SV) (hw : x.wf β.length) : (x.vals β).length = x.widN.den := by
  induction x with
  | cons h t ihh iht => simp [SV.vals, SV.widN, addN_den, ihh hw.1, iht hw.2]
  | run k n xs => simp only [SV.vals, List.length_map, SV.widN]; exact hw
  | blob n vs => exact hw.1
  | nil => rfl
  | _ => rfl

theorem cutBlob_sound : ∀ (l p : SV) (n : NE) (vs : List Value), l.wf β.length → cutBlob l = some (p, n, vs) →
    l.vals β = p.vals β ++ vs ∧ p.wf β.length ∧ vs.length = n.den ∧ ∀ v ∈ vs, v.oneCell' = true := by
  intro l
  induction l with
  | cons h t _ iht =>
    intro p n vs hw hc
    unfold cutBlob at hc
    split at hc
    · rename_i m us heq
      cases heq
      cases hc
      exact ⟨by simp [SV.vals], trivial, hw.1.1, hw.1.2⟩
    · rename_i h' t' _ heq
      cases heq
      split at hc
      · rename_i p' n' vs' ht
        cases hc
        obtain ⟨h1, h2, h3⟩ := iht _ _ _ hw.2 ht
        exact ⟨by simp [SV.vals, h1], ⟨hw.1, h2⟩, h3⟩
      · cases hc
    · cases hc
  | _ => intro p n vs hw hc; cases hc

/-! ### make -/

def mapK (m : TypeDesc) : Bool := match m with | .map _ _ => true | _ => false
def xMakeMap (P : Program) (t : TypeId) (r : Option SV) (hp : Hp) (K : SV → Hp → Prop) : Prop :=
  match r with
  | none => K (.map hp.n) { hp with n := hp.n + 1, H := (hp.n, some (.map [] 0)) :: hp.H }
  | some (.int _ _) => (match P.underlying t with
    | some (.map _ _) => K (.map hp.n) { hp with n := hp.n + 1, H := (hp.n, some (.map [] 0)) :: hp.H }
    | _ => False)
  | _ => False
theorem xMakeMap_sound (hS : Sat F β hp w) {t : TypeId} {r : Option SV} (h : xMakeMap P t r hp K) : Runs P F β w (Instr.makeMap t (r.map (SV.val β))) K := by
  have hn := hS.n
  have hnew := hS.new (.map [] 0) (fun e he => by cases he)
  have fin : K (.map hp.n) { hp with n := hp.n + 1, H := (hp.n, some (.map [] 0)) :: hp.H } → Yld F β K (.map (some w.heap.size)) { w with heap := w.heap.push (.map #[] 0) } := fun hK =>
    ⟨[w.heap.size], _, _, hnew, rfl, by simp [SV.wf, hn], by simp [SV.val, SV.vals, blk, hn], hK⟩
  unfold xMakeMap at h
  split at h
  · exact ⟨_, _, rfl, fin h⟩
  · rename_i k e
    split at h
    · rename_i a b hd
      refine ⟨_, _, ?_, fin h⟩
      simp [Instr.makeMap, run_underlying hd, Go.asInt, asIntOf, val_int]
    · exact h.elim
  · exact h.elim

/-- Rows of zero elements whose number isn't a literal. -/
def zerosN (z : SV) (n : NE) (K : SV → Prop) : Prop :=
  match n with
  | .lit n => K (zeros z n)
  | .v n => match z with
    | .cons (.int k (.lit d)) .nil => ∀ xs : List Int, xs = List.replicate n d → K (.cons (.run k (.v n) (.list xs)) .nil)
    | z => (match realVals z with
      | some ws => ∀ vs : List Value, vs = repL ws n → K (.cons (.blob (.v (ws.length * n)) vs) .nil)
      | none => False)
theorem zerosN_sound {z : SV} {n : NE} {K : SV → Prop} (hz : z.wf β.length) (hone : ∀ v ∈ z.vals β, v.oneCell' = true) (h : zerosN z n K) : ∃ l, K l ∧ l.wf β.length ∧ l.vals β = repL (z.vals β) n.den := by
  unfold zerosN at h
  split at h
  · rename_i m
    obtain ⟨h1, h2⟩ := zeros_sound (β := β) z m hz
    exact ⟨_, h, h1, h2⟩
  · rename_i m
    split at h
    · rename_i k d
      refine ⟨_, h _ rfl, ⟨show (List.replicate m d).length = m by simp, trivial⟩, ?_⟩
      show (List.replicate m d).map (Value.int k) ++ [] = repL [.int k d] m
      rw [repL_one]; simp
    · split at h
      · rename_i ws hws
        have hv := realVals_vals β _ _ hws
        rw [hv] at hone
        refine ⟨_, h _ rfl, ⟨⟨by rw [repL_length]; exact Nat.mul_comm _ _, oneCell_mem_repL hone _⟩, trivial⟩, ?_⟩
        rw [hv]
        simp [SV.vals, NE.den]
      · exact h.elim

def xMakeSlice (P : Program) (zt : List (TypeId × SV)) (t : TypeId) (len cap : SV) (hp : Hp) (K : SV → Hp → Prop) : Prop :=
  match P.underlying t, len, cap with
  | some (.slice el), .int _ l, .int _ c => (match P.info? el, zrow P zt el with
    | some inf, some z => leE l (IE.n c) <| leE c (.lit 9223372036854775807) <| leN (mulN (IE.n c) inf.bytes) (.lit 281474976710656) <|
        bif z.cells && (match z.wid with | some m => Nat.beq m inf.size | none => false) then
          zerosN z (IE.n l) fun row => ∀ vs : List Value, vs.length = (subN (IE.n c) (IE.n l)).den * inf.size → (∀ v ∈ vs, v.oneCell' = true) →
            newRowK (row.app (.cons (.blob (mulN (subN (IE.n c) (IE.n l)) inf.size) vs) .nil)) el hp K (fun n => .slice n (.lit 0) (IE.n l) (IE.n c))
        else False
    | _, _ => False)
  | _, _, _ => False

theorem zsize {z : SV} {zv : Value} {s : Nat} (h1 : z.wf β.length) (h2 : z.vals β = zv.cells.toList) (h : (match z.wid with | some m => Nat.beq m s | none => false) = true) : zv.cells.size = s := by
  split at h
  · rename_i m hm
    have h4 := SV.wid_len β z h1 m hm
    rw [h2] at h4
    have := beq_t h
    simp at h4
    omega
  · cases h

theorem xMakeSlice_sound (hz : ZOk P zt) (hS : Sat F β hp w) {t : TypeId} {len cap : SV} (h : xMakeSlice P zt t len cap hp K) : Runs P F β w (Instr.makeSlice t (len.val β) (cap.val β)) K := by
  unfold xMakeSlice at h
  split at h
  · rename_i el k1 l k2 c hd
    split at h
    · rename_i inf z hinf hr
      obtain ⟨a1, a2, h⟩ := leE_sound h
      obtain ⟨b1, b2, h⟩ := leE_sound h
      obtain ⟨c1, h⟩ := leN_sound h
      cases hc : (z.cells && (match z.wid with | some m => Nat.beq m inf.size | none => false)) <;> rw [hc] at h
      · exact h.elim
      · simp only [cond_true] at h
        simp only [Bool.and_eq_true] at hc
        obtain ⟨i, zv, hi, hzz, h1, h2⟩ := zrow_sound (β := β) hz hr
        obtain rfl : inf = i := by rw [hinf] at hi; exact Option.some.inj hi
        have hzsz := zsize h1 h2 hc.2
        have hone := SV.cells_sound h1 hc.1
        obtain ⟨row, hrow, r1, r2⟩ := zerosN_sound (β := β) h1 hone h
        have hsub : (subN (IE.n c) (IE.n l)).den = c.den.toNat - l.den.toNat := by rw [subN_den, IE.n_den, IE.n_den]
        have hlen : (repL (z.vals β) (c.den.toNat - l.den.toNat)).length = (subN (IE.n c) (IE.n l)).den * inf.size := by
          rw [repL_length, hsub, h2]; simp [hzsz]
        have hK := hrow (repL (z.vals β) (c.den.toNat - l.den.toNat)) hlen (oneCell_mem_repL hone _)
        rw [IE.n_den] at a2
        have hwf : (row.app (.cons (.blob (mulN (subN (IE.n c) (IE.n l)) inf.size) (repL (z.vals β) (c.den.toNat - l.den.toNat))) .nil)).wf β.length :=
          SV.app_wf _ _ _ r1 ⟨⟨by rw [mulN_den]; exact hlen, oneCell_mem_repL hone _⟩, trivial⟩
        refine ⟨_, _, ?_, yld_new hS hwf el (fun n => .slice n (.lit 0) (IE.n l) (IE.n c)) rfl (Nat.lt_succ_self _) hK (v := .slice (some ⟨w.heap.size, 0, none⟩) l.den.toNat c.den.toNat) (fun γ hγ => ?_)⟩
        · rw [mulN_den, IE.n_den, NE_lit] at c1
          have hby : (inf.bytes : Int) * c.den ≤ 281474976710656 := by
            have h5 : c.den = (c.den.toNat : Int) := by omega
            rw [h5]
            have h6 : ((c.den.toNat * inf.bytes : Nat) : Int) ≤ 281474976710656 := by omega
            rw [Int.natCast_mul, Int.mul_comm] at h6
            exact h6
          have := run_make (P := P) w t el inf zv hd hinf hzz k1 k2 l.den c.den a1 (by omega) hby (by rw [NE_lit] at b2; exact b2)
          rw [val_int, val_int, this]
          have hrows : madeCells zv.cells (c.den.toNat * inf.size) = ((row.app (.cons (.blob (mulN (subN (IE.n c) (IE.n l)) inf.size) (repL (z.vals β) (c.den.toNat - l.den.toNat))) .nil)).vals β).toArray := by
            have h7 := madeCells_repL zv.cells c.den.toNat
            rw [hzsz] at h7
            rw [h7, SV.app_vals, r2, IE.n_den, ← h2]
            have h8 : c.den.toNat = l.den.toNat + (c.den.toNat - l.den.toNat) := by omega
            conv => lhs; rw [h8, repL_add]
            simp [SV.vals]
          rw [hrows]
          rfl
        · simp [SV.val, SV.vals, hγ, Off.den, IE.n_den]
    · exact h.elim
  · exact h.elim

/-- A text as a slice of bytes. -/
def xBytes (P : Program) (src dst : TypeId) (x : SV) (hp : Hp) (K : SV → Hp → Prop) : Prop :=
  match P.underlying src, P.underlying dst, x with
  | some .string, some (.slice e), .str s => (match P.underlying e with
    | some (.int .u8) => ∀ (c : Nat) (vs : List Value), s.den.size ≤ c → vs.length = c - s.den.size → (∀ v ∈ vs, v.oneCell' = true) →
        K (.slice hp.n (.lit 0) s.size (.v c)) { hp with n := hp.n + 1, H := (hp.n, some (.cells ((match s with
          | .lit b => litRow b.data.toList
          | .v b => .cons (.run .u8 (.v b.size) (.list (bytesOf b))) .nil).app (.cons (.blob (.v (c - s.den.size)) vs) .nil)) e true)) :: hp.H }
    | _ => False)
  | _, _, _ => False
theorem xBytes_sound (hS : Sat F β hp w) {src dst : TypeId} {x : SV} (h : xBytes P src dst x hp K) : Runs P F β w (convert src dst (x.val β)) K := by
  unfold xBytes at h
  split at h
  · rename_i e s hs hd
    split at h
    · rename_i he
      have hr := run_bytes_of_string w src dst e s.den hs hd he
      have hge := grownCap_ge w s.den.size 0 e
      have hK := h (grownCap w s.den.size 0 e) (List.replicate (grownCap w s.den.size 0 e - s.den.size) (.int .u8 0)) hge (by simp) (fun v hv => by rw [(List.mem_replicate.1 hv).2]; rfl)
      have hn := hS.n
      have hrow : ∀ l : SV, l.vals β = byteCells s.den → l.wf β.length →
          K (.slice hp.n (.lit 0) s.size (.v (grownCap w s.den.size 0 e))) { hp with n := hp.n + 1, H := (hp.n, some (.cells (l.app (.cons (.blob (.v (grownCap w s.den.size 0 e - s.den.size)) (List.replicate (grownCap w s.den.size 0 e - s.den.size) (.int .u8 0))) .nil)) e true)) :: hp.H } →
          Runs P F β w (convert src dst ((SV.str s).val β)) K := by
        intro l hl hlw hK
        have hwf : (l.app (.cons (.blob (.v (grownCap w s.den.size 0 e - s.den.size)) (List.replicate (grownCap w s.den.size 0 e - s.den.size) (.int .u8 0))) .nil)).wf β.length :=
          SV.app_wf _ _ _ hlw ⟨⟨by simp [NE.den], fun v hv => by rw [(List.mem_replicate.1 hv).2]; rfl⟩, trivial⟩
        have hnew := (hS.drew (w.drawn + 1)).new (.cells _ e true) (by rw [hn]; exact SV.wf_mono (Nat.le_succ _) _ hwf)
        refine ⟨_, _, hr, [w.heap.size], _, _, ?_, rfl, by simp [SV.wf, hn], by simp [SV.val, SV.vals, blk, hn, Off.den, SE.size_den, NE_v], hK⟩
        have hv := SV.vals_append β [w.heap.size] _ hwf
        have hvals : (l.app (.cons (.blob (.v (grownCap w s.den.size 0 e - s.den.size)) (List.replicate (grownCap w s.den.size 0 e - s.den.size) (.int .u8 0))) .nil)).vals β = (bytesRow s.den (grownCap w s.den.size 0 e)).toList := by
          rw [SV.app_vals, hl]
          simp [SV.vals, bytesRow, byteCells]
        simp only [SObj.den, fzOf, cond_true] at hnew
        rw [hv, hvals] at hnew
        simp at hnew
        exact hnew
      cases s with
      | lit b => exact hrow _ (litRow_vals _) (litRow_wf _ _) hK
      | v b => exact hrow (.cons (.run .u8 (.v b.size) (.list (bytesOf b))) .nil) (by show (bytesOf b).map (Value.int .u8) ++ [] = _; simp [bytesOf, byteCells, SE.den]) ⟨bytesOf_length b, trivial⟩ hK
    · exact h.elim
  · exact h.elim
end
end Vx
end
section
/- append and copy. -/
namespace Vx
open Go

section
variable {P : Program} {F : Fr} {β : List Nat} {hp : Hp} {w : World} {zt : List (TypeId × SV)} {K : SV → Hp → Prop}

/-- The new row of an append that grows. -/
def growK (olds r : SV) (len n : NE) (s : Nat) (el : TypeId) (hp : Hp) (K : SV → Hp → Prop) : Prop :=
  ∀ (c : Nat) (vs : List Value), (addN len n).den ≤ c → vs.length = (c - (addN len n).den) * s → (∀ v ∈ vs, v.oneCell' = true) →
    newRowK (olds.app (r.app (.cons (.blob (.v ((c - (addN len n).den) * s)) vs) .nil))) el hp K (fun b => .slice b (.lit 0) (addN len n) (.v c))

theorem grow_sound (hz : ZOk P zt) (hS : Sat F β hp w) {t tx ty el : TypeId} {inf : TypeInfo} {z : SV} (hd : P.underlying t = some (.slice el)) (hinf : P.info? el = some inf)
    (hr : zrow P zt el = some z) (hzc : (z.cells && (match z.wid with | some m => Nat.beq m inf.size | none => false)) = true)
    {base : Option Addr} {olds r : SV} {len n : NE} {cap : Nat} {x : SV} (hsrc : SrcOk P β inf.size tx x w r n) (ho : olds.wf β.length)
    (hold : (Builtin.firstCells inf.size len.den (.slice base len.den cap)).run P w.drew = .ok (olds.vals β).toArray w.drew)
    (hg : cap < len.den + n.den) (hfit : (len.den + n.den) * inf.bytes ≤ 140737488355328) (h63 : len.den + n.den ≤ 9223372036854775807) (hK : growK olds r len n inf.size el hp K) :
    Runs P F β w (Builtin.append_ #[t, tx] ty #[.slice base len.den cap, x.val β]) K := by
  obtain ⟨i, zv, hi, hzz, h1, h2⟩ := zrow_sound (β := β) hz hr
  obtain rfl : inf = i := by rw [hinf] at hi; exact Option.some.inj hi
  simp only [Bool.and_eq_true] at hzc
  have hzsz := zsize h1 h2 hzc.2
  have hone := SV.cells_sound h1 hzc.1
  have hrun := run_append_grow_src (P := P) w t tx ty el inf zv hd hinf hzz base len.den cap (olds.vals β) hold (x.val β) n.den (r.vals β) hsrc.src hg (by omega) (growslice_fits hg hfit)
  have hge := grownCap_ge w (len.den + n.den) cap el
  have hzero : (Builtin.zeroCells zv.cells (grownCap w (len.den + n.den) cap el - (len.den + n.den))).toList = repL (z.vals β) (grownCap w (len.den + n.den) cap el - (len.den + n.den)) := by
    have := madeCells_repL zv.cells (grownCap w (len.den + n.den) cap el - (len.den + n.den))
    unfold madeCells at this
    unfold Builtin.zeroCells
    rw [this, h2]
  have hlen : (repL (z.vals β) (grownCap w (len.den + n.den) cap el - (len.den + n.den))).length = (grownCap w (len.den + n.den) cap el - (addN len n).den) * inf.size := by
    rw [repL_length, h2, addN_den]; simp [hzsz]
  have hK' := hK _ _ (by rw [addN_den]; exact hge) hlen (oneCell_mem_repL hone _)
  have hwf : (olds.app (r.app (.cons (.blob (.v ((grownCap w (len.den + n.den) cap el - (addN len n).den) * inf.size)) (repL (z.vals β) (grownCap w (len.den + n.den) cap el - (len.den + n.den)))) .nil))).wf β.length :=
    SV.app_wf _ _ _ ho (SV.app_wf _ _ _ hsrc.wf ⟨⟨by rw [NE_v]; exact hlen, oneCell_mem_repL hone _⟩, trivial⟩)
  refine ⟨_, _, hrun, ?_⟩
  have hy := yld_new (hS.drew (w.drawn + 1)) hwf el (fun b => .slice b (.lit 0) (addN len n) (.v (grownCap w (len.den + n.den) cap el))) rfl (Nat.lt_succ_self _) hK' (v := .slice (some ⟨w.heap.size, 0, none⟩) (len.den + n.den) (grownCap w (len.den + n.den) cap el)) (fun γ hγ => by
    simp only at hγ
    simp [SV.val, SV.vals, hγ, Off.den, addN_den, NE_v])
  have hrows : ((olds.vals β ++ r.vals β).toArray ++ Builtin.zeroCells zv.cells (grownCap w (len.den + n.den) cap el - (len.den + n.den))) =
      ((olds.app (r.app (.cons (.blob (.v ((grownCap w (len.den + n.den) cap el - (addN len n).den) * inf.size)) (repL (z.vals β) (grownCap w (len.den + n.den) cap el - (len.den + n.den)))) .nil))).vals β).toArray := by
    apply Array.ext'
    simp [SV.app_vals, SV.vals, hzero]
  rw [hrows]
  exact hy

/-- An append that has room: the cells are stored behind the length. -/
theorem room_sound (hS : Sat F β hp w) {t tx ty el : TypeId} {inf : TypeInfo} (hd : P.underlying t = some (.slice el)) (hinf : P.info? el = some inf)
    {id : Nat} {off : Off} {len n cap : NE} {x r : SV} (hsrc : SrcOk P β inf.size tx x w r n) {l : SV} {el' : TypeId} {z : Bool} (hown : getH id hp.H = some (.cells l el' z))
    {pre old post : List Value} (hl : l.vals β = pre ++ old ++ post) (hpre : pre.length = off.den + len.den * inf.size) (hold : old.length = n.den * inf.size) (hroom : len.den + n.den ≤ cap.den) :
    ∃ w', (Builtin.append_ #[t, tx] ty #[.slice (some ⟨blk β id, off.den, none⟩) len.den cap.den, x.val β]).run P w = .ok (.slice (some ⟨blk β id, off.den, none⟩) (len.den + n.den) cap.den) w' ∧
      w'.heap[blk β id]? = some (.cells (pre ++ r.vals β ++ post).toArray el' (fzOf z (pre ++ r.vals β ++ post).length)) ∧ (∀ b', b' ≠ blk β id → w'.heap[b']? = w.heap[b']?) ∧
      w'.tape = w.tape ∧ w'.os = w.os ∧ w'.output = w.output := by
  obtain ⟨g1, g2, g3⟩ := hS.get (o := .cells l el' z) (id := id) (by unfold getB; rw [hown])
  simp only [SObj.den] at g3
  have hnl := hsrc.src.newsLen
  rw [hl] at g3
  obtain ⟨w', r1, r2, r3, r4⟩ := run_storeCells_row (P := P) (r.vals β) 0 w (blk β id) (off.den + len.den * inf.size) el' pre old post z g3 (by omega) (by omega) hsrc.cells
  have hc : ∀ j, j < (r.vals β).length → (w.cell? ⟨blk β id, off.den + len.den * inf.size + j, none⟩).isSome = true := fun j hj => by
    rw [cell_of_row g3]
    simp
    omega
  have hf : ∀ j, j < (r.vals β).length → w.frozen? ⟨blk β id, off.den + len.den * inf.size + j, none⟩ = false := fun j hj => by
    cases z <;> simp [World.frozen?, g3, fzOf] <;> omega
  have hrun := run_append_room_src (P := P) w t tx ty el inf hd hinf (blk β id) off.den len.den cap.den (x.val β) n.den (r.vals β) hsrc.src hroom hc hf
  have hst := run_storeCells_cells (P := P) (blk β id) (off.den + len.den * inf.size) (r.vals β) 0 w (by simpa using hc) (by simpa using hf) hsrc.cells
  simp only [Nat.add_zero] at hst
  have heq : w' = w.setCells (blk β id) (off.den + len.den * inf.size) (r.vals β) := by
    rw [hst] at r1
    cases r1; rfl
  exact ⟨w', by rw [hrun, heq], r2, r3, r4⟩

/-- Is there room for sure; is there none for sure? -/
inductive Room where
  | yes
  | no
  | may
def roomOf (need cap : NE) : Room :=
  match need, cap with
  | .lit a, .lit b => bif Nat.ble a b then .yes else .no
  | _, _ => .may
theorem roomOf_yes {need cap : NE} (h : roomOf need cap = .yes) : need.den ≤ cap.den := by
  unfold roomOf at h
  split at h
  · rename_i a b
    cases hb : Nat.ble a b <;> rw [hb] at h
    · cases h
    · exact Nat.le_of_ble_eq_true hb
  · cases h
theorem roomOf_no {need cap : NE} (h : roomOf need cap = .no) : cap.den < need.den := by
  unfold roomOf at h
  split at h
  · rename_i a b
    cases hb : Nat.ble a b <;> rw [hb] at h
    · have : ¬ a ≤ b := fun h' => by rw [Nat.ble_eq_true_of_le h'] at hb; cases hb
      simp only [NE.den]; omega
    · cases h
  · cases h

def offN (o : Off) : NE :=
  match o with
  | .lit a => .lit a
  | .at a i => .v (a + i)
theorem offN_den (o : Off) : (offN o).den = o.den := by cases o <;> rfl

/-- A row with some cells in the place of as many behind a place. -/
def rowOver (l r : SV) (o n : NE) (K : SV → Prop) : Prop :=
  match (match o, n with
    | .lit o, .lit n => (match rowCut l o with
      | some (p, q) => (match rowCut q n with
        | some (_, s) => some (p.app (r.app s))
        | none => none)
      | none => none)
    | _, _ => none) with
  | some l' => K l'
  | none => match cutBlob l with
    | some (p, m, vs) => eqN p.widN o <| leN n m <| K (p.app (r.app (.cons (.blob (subN m n) (vs.drop n.den)) .nil)))
    | none => False
theorem rowOver_sound {l r : SV} {o n : NE} {K : SV → Prop} (hl : l.wf β.length) (hr : r.wf β.length) (h : rowOver l r o n K) :
    ∃ l' pre old post, K l' ∧ l'.wf β.length ∧ l.vals β = pre ++ old ++ post ∧ l'.vals β = pre ++ r.vals β ++ post ∧ pre.length = o.den ∧ old.length = n.den := by
  unfold rowOver at h
  split at h
  · rename_i l' hc
    split at hc
    · rename_i o n
      split at hc
      · rename_i p q hpq
        split at hc
        · rename_i m s hms
          cases hc
          obtain ⟨e1, e2, e3, e4⟩ := rowCut_sound β l o _ _ hl hpq
          obtain ⟨f1, f2, f3, f4⟩ := rowCut_sound β q n _ _ e4 hms
          exact ⟨_, p.vals β, m.vals β, s.vals β, h, SV.app_wf _ _ _ e3 (SV.app_wf _ _ _ hr f4), by rw [e1, f1]; simp, by simp [SV.app_vals], e2, f2⟩
        · cases hc
      · cases hc
    · cases hc
  · split at h
    · rename_i p m vs hb
      obtain ⟨b1, b2, b3, b4⟩ := cutBlob_sound l p m vs hl hb
      obtain ⟨c1, h⟩ := eqN_sound h
      obtain ⟨c2, h⟩ := leN_sound h
      have hw := SV.widN_len (β := β) p b2
      refine ⟨_, p.vals β, vs.take n.den, vs.drop n.den, h, SV.app_wf _ _ _ b2 (SV.app_wf _ _ _ hr ⟨⟨by rw [subN_den]; simp; omega, fun v hv => b4 v (List.mem_of_mem_drop hv)⟩, trivial⟩), ?_, by simp [SV.app_vals, SV.vals], by omega, by simp; omega⟩
      rw [b1, List.append_assoc, List.take_append_drop]
    · exact h.elim

def appFit (len n : NE) (inf : TypeInfo) (K : Prop) : Prop :=
  leN (mulN (addN len n) inf.bytes) (.lit 140737488355328) <| leN (addN len n) (.lit 9223372036854775807) K
theorem appFit_sound {len n : NE} {inf : TypeInfo} {K : Prop} (h : appFit len n inf K) : (len.den + n.den) * inf.bytes ≤ 140737488355328 ∧ len.den + n.den ≤ 9223372036854775807 ∧ K := by
  obtain ⟨h1, h⟩ := leN_sound h
  obtain ⟨h2, h⟩ := leN_sound h
  rw [mulN_den, addN_den, NE_lit] at h1
  rw [addN_den, NE_lit] at h2
  exact ⟨h1, h2, h⟩

/-- The room behind a row: a blob at its end, or none. -/
def cutRoom (l : SV) : Option (SV × NE × List Value) :=
  match cutBlob l with
  | some x => some x
  | none => some (l, .lit 0, [])
theorem cutRoom_sound (l p : SV) (n : NE) (vs : List Value) (hw : l.wf β.length) (h : cutRoom l = some (p, n, vs)) :
    l.vals β = p.vals β ++ vs ∧ p.wf β.length ∧ vs.length = n.den ∧ ∀ v ∈ vs, v.oneCell' = true := by
  unfold cutRoom at h
  split at h
  · rename_i x hx
    cases h
    exact cutBlob_sound l p n vs hw hx
  · cases h
    exact ⟨by simp, hw, rfl, fun v hv => by cases hv⟩
def xAppendTo (r : SV) (n : NE) (inf : TypeInfo) (el : TypeId) (s : SV) (hp : Hp) (K : SV → Hp → Prop) : Prop :=
  match s with
  | .nilslice => (match n with
    | .lit 0 => K .nilslice hp
    | .lit (m + 1) => appFit (.lit 0) (.lit (m + 1)) inf <| growK .nil r (.lit 0) (.lit (m + 1)) inf.size el hp K
    | .v m => (m = 0 → K .nilslice hp) ∧ (m ≠ 0 → appFit (.lit 0) (.v m) inf (growK .nil r (.lit 0) (.v m) inf.size el hp K)))
  | .slice id off len cap =>
    (match roomOf (addN len n) cap with
    | .yes => (match ownRow id hp with
      | some (l, e, z) => rowOver l r (addN (offN off) (mulN len inf.size)) (mulN n inf.size) fun l' =>
          K (.slice id off (addN len n) cap) { hp with H := setH id (.cells l' e z) hp.H }
      | none => False)
    | .no => (match getRow id hp with
      | some (l, _, _) => appFit len n inf <| rowSrc l off len inf.size fun olds => growK olds r len n inf.size el hp K
      | none => False)
    | .may => (match ownRow id hp, off with
      | some (l, e, false), .lit 0 => (match cutRoom l with
        | some (p, m, _) => bif Nat.beq e el then appFit len n inf <| eqN p.widN (mulN len inf.size) <| eqN m (mulN (subN cap len) inf.size) <| leN len cap <|
            ∀ (c : Nat) (vs : List Value), (addN len n).den ≤ c → vs.length = (c - (addN len n).den) * inf.size → (∀ v ∈ vs, v.oneCell' = true) →
              K (.slice hp.n (.lit 0) (addN len n) (.v c)) { hp with n := hp.n + 1, H := (hp.n, some (.cells (p.app (r.app (.cons (.blob (.v ((c - (addN len n).den) * inf.size)) vs) .nil))) el false)) :: delH id hp.H }
          else False
        | none => False)
      | _, _ => False))
  | _ => False

def xAppend (P : Program) (zt : List (TypeId × SV)) (t tx : TypeId) (s x : SV) (hp : Hp) (K : SV → Hp → Prop) : Prop :=
  match P.underlying t with
  | some (.slice el) => (match P.info? el, zrow P zt el with
    | some inf, some z => bif z.cells && (match z.wid with | some m => Nat.beq m inf.size | none => false) then
        xSrc P tx inf.size x hp fun r n => xAppendTo r n inf el s hp K
      else False
    | _, _ => False)
  | _ => False

theorem xAppend_sound (hz : ZOk P zt) (hS : Sat F β hp w) {t tx ty : TypeId} {s x : SV} (hs : s.wf β.length) (h : xAppend P zt t tx s x hp K) :
    Runs P F β w (Builtin.append_ #[t, tx] ty #[s.val β, x.val β]) K := by
  unfold xAppend at h
  split at h
  · rename_i el hd
    split at h
    · rename_i inf z hinf hr
      cases hzc : (z.cells && (match z.wid with | some m => Nat.beq m inf.size | none => false)) <;> rw [hzc] at h
      · exact h.elim
      · simp only [cond_true] at h
        obtain ⟨r, n, h, hsrc⟩ := xSrc_sound hS h
        unfold xAppendTo at h
        split at h
        · have growN : n.den ≠ 0 → appFit (.lit 0) n inf (growK .nil r (.lit 0) n inf.size el hp K) → Runs P F β w (Builtin.append_ #[t, tx] ty #[(SV.nilslice).val β, x.val β]) K := by
            intro hn0 h
            obtain ⟨f1, f2, h⟩ := appFit_sound h
            exact grow_sound hz hS hd hinf hr hzc (base := none) (olds := .nil) (len := .lit 0) (cap := 0) hsrc trivial (run_firstCells_none _ _ _ _ _) (by rw [NE_lit]; omega) f1 f2 h
          have nilN : n.den = 0 → K .nilslice hp → Runs P F β w (Builtin.append_ #[t, tx] ty #[(SV.nilslice).val β, x.val β]) K := by
            intro hn0 h
            have hcell : (r.vals β) = [] := List.eq_nil_of_length_eq_zero (by have := hsrc.src.newsLen; rw [hn0] at this; simpa using this)
            have hsc := hsrc.src
            rw [hn0, hcell] at hsc
            refine runs_pure hS (sv := .nilslice) (v := .slice none 0 0) ?_ rfl trivial rfl h
            show (Builtin.append_ #[t, tx] ty #[.slice none 0 0, x.val β]).run P w = _
            have hl := hsc.len w
            have hcl := hsc.cells
            rcases hsc.kind with ⟨e', hk⟩ | hk <;>
              simp [Builtin.append_, run_underlying hd, run_underlying hk, Go.sizeOf, typeInfo, hinf, hl, hcl]
          split at h
          · exact nilN rfl h
          · rename_i m
            exact growN (by simp [NE.den]) h
          · rename_i m
            by_cases hm : m = 0
            · exact nilN hm (h.1 hm)
            · exact growN hm (h.2 hm)
        · rename_i id off len cap _
          have hv : (SV.slice id off len cap).val β = .slice (some ⟨blk β id, off.den, none⟩) len.den cap.den := rfl
          rw [hv]
          split at h
          · rename_i hroom
            have hroom := roomOf_yes hroom
            rw [addN_den] at hroom
            split at h
            · rename_i l e z' hg
              have hown := ownRow_get hg
              obtain ⟨g1, g2, g3⟩ := hS.row (ownRow_row hg)
              obtain ⟨l', pre, old, post, hK, k1, k2, k3, k4, k5⟩ := rowOver_sound g2 hsrc.wf h
              rw [addN_den, offN_den, mulN_den] at k4
              rw [mulN_den] at k5
              obtain ⟨w', r1, r2, r3, r4⟩ := room_sound hS (ty := ty) hd hinf hsrc hown k2 k4 k5 hroom
              rw [← k3] at r2
              exact ⟨_, w', r1, [], _, _, by simpa using hS.set hown (o' := .cells l' e z') k1 r4 r2 r3, rfl, (by rw [List.append_nil]; exact hs), by simp [SV.val, SV.vals, addN_den], hK⟩
            · exact h.elim
          · rename_i hroom
            have hroom := roomOf_no hroom
            rw [addN_den] at hroom
            split at h
            · rename_i l e z' hg
              obtain ⟨f1, f2, h⟩ := appFit_sound h
              obtain ⟨g1, g2, g3⟩ := hS.row hg
              obtain ⟨olds, pre, post, hK, c1, c2, c3, c4⟩ := rowSrc_sound g2 h
              refine grow_sound hz hS hd hinf hr hzc (base := some ⟨blk β id, off.den, none⟩) (olds := olds) hsrc c1 ?_ hroom f1 f2 hK
              refine run_firstCells_some _ _ _ _ _ _ _ c4 (fun j v hj => ?_)
              have g3' : w.drew.heap[blk β id]? = some (.cells (l.vals β).toArray e (fzOf z' (l.vals β).length)) := g3
              rw [addr_add, cell_of_row g3', c2]
              have hlt : j < (olds.vals β).length := (List.getElem?_eq_some_iff.1 hj).1
              simp only [List.getElem?_toArray]
              rw [List.getElem?_append_left (by simp; omega), List.getElem?_append_right (by omega), ← c3]
              simpa using hj
            · exact h.elim
          · split at h
            · rename_i l e hg _
              have hown := ownRow_get hg
              obtain ⟨g1, g2, g3⟩ := hS.row (ownRow_row hg)
              split at h
              · rename_i p m vs hb
                cases he : Nat.beq e el <;> rw [he] at h
                · exact h.elim
                · have := beq_t he
                  subst this
                  simp only [cond_true] at h
                  obtain ⟨f1, f2, h⟩ := appFit_sound h
                  obtain ⟨c1, h⟩ := eqN_sound h
                  obtain ⟨c2, h⟩ := eqN_sound h
                  obtain ⟨c3, h⟩ := leN_sound h
                  obtain ⟨b1, b2, b3, b4⟩ := cutRoom_sound l p m vs g2 hb
                  have hwid := SV.widN_len (β := β) p b2
                  rw [mulN_den] at c1
                  rw [mulN_den, subN_den] at c2
                  by_cases hroom : len.den + n.den ≤ cap.den
                  · have hsplit : vs = vs.take (n.den * inf.size) ++ vs.drop (n.den * inf.size) := (List.take_append_drop _ _).symm
                    have hmul : n.den * inf.size ≤ (cap.den - len.den) * inf.size := Nat.mul_le_mul_right _ (by omega)
                    obtain ⟨w', r1, r2, r3, r4⟩ := room_sound hS (ty := ty) hd hinf hsrc hown (off := .lit 0) (len := len) (cap := cap) (pre := p.vals β) (old := vs.take (n.den * inf.size)) (post := vs.drop (n.den * inf.size))
                      (by rw [b1, List.append_assoc, ← hsplit]) (by simp [Off.den]; omega) (by simp; omega) hroom
                    have hlen : (vs.drop (n.den * inf.size)).length = (cap.den - (addN len n).den) * inf.size := by
                      rw [addN_den, List.length_drop, b3, c2, ← Nat.sub_mul]
                      congr 1; omega
                    have hone : ∀ v ∈ vs.drop (n.den * inf.size), v.oneCell' = true := fun v hv => b4 v (List.mem_of_mem_drop hv)
                    have hK := h cap.den (vs.drop (n.den * inf.size)) (by rw [addN_den]; exact hroom) hlen hone
                    have hwf : (p.app (r.app (.cons (.blob (.v ((cap.den - (addN len n).den) * inf.size)) (vs.drop (n.den * inf.size))) .nil))).wf β.length :=
                      SV.app_wf _ _ _ b2 (SV.app_wf _ _ _ hsrc.wf ⟨⟨by rw [NE_v]; exact hlen, hone⟩, trivial⟩)
                    have hrow : p.vals β ++ r.vals β ++ vs.drop (n.den * inf.size) = (p.app (r.app (.cons (.blob (.v ((cap.den - (addN len n).den) * inf.size)) (vs.drop (n.den * inf.size))) .nil))).vals β := by
                      simp [SV.app_vals, SV.vals]
                    rw [hrow] at r2
                    have hn := hS.n
                    refine ⟨_, w', r1, [blk β id], _, _, hS.move hown (o' := .cells _ e false) hwf r4 r2 r3, rfl, by simp [SV.wf, hn], ?_, hK⟩
                    simp [SV.val, SV.vals, blk, hn, Off.den, addN_den, NE_v]
                  · have hold : (Builtin.firstCells inf.size len.den (.slice (some ⟨blk β id, 0, none⟩) len.den cap.den)).run P w.drew = .ok (p.vals β).toArray w.drew := by
                      refine run_firstCells_some _ _ _ _ _ _ _ (by omega) (fun j v hj => ?_)
                      have g3' : w.drew.heap[blk β id]? = some (.cells (l.vals β).toArray e (fzOf false (l.vals β).length)) := g3
                      rw [addr_add, cell_of_row g3', b1]
                      have hlt : j < (p.vals β).length := (List.getElem?_eq_some_iff.1 hj).1
                      simp only [List.getElem?_toArray, Nat.zero_add]
                      rw [List.getElem?_append_left hlt]
                      exact hj
                    exact grow_sound hz (hS.drop id) hd hinf hr hzc (base := some ⟨blk β id, 0, none⟩) (olds := p) hsrc b2 hold (by omega) f1 f2 h
              · exact h.elim
            · exact h.elim
        · exact h.elim
    · exact h.elim
  · exact h.elim
end
end Vx
end
