/- Operations that leave all memory as it was: whatever their operands are. -/
import Derived.Test.YtafngdeeachggaaGreatVxReg
set_option linter.unusedVariables false
set_option linter.unusedSimpArgs false
namespace Vx
open Go

def Mild {α : Type} (s : Sem α) : Prop := ∀ (P : Program) (w : World) (a : α) (w' : World), s.run P w = .ok a w' → Ext w w'

section
variable {α β : Type}
theorem mild_pure (a : α) : Mild (Pure.pure a : Sem α) := by
  intro P w b w' h
  simp at h
  obtain ⟨_, rfl⟩ := h
  exact Ext.refl _
theorem mild_bind {s : Sem α} {f : α → Sem β} (hs : Mild s) (hf : ∀ a, Mild (f a)) : Mild (s >>= f) := by
  intro P w b w' h
  simp only [Sem.run_bind] at h
  cases hr : s.run P w with
  | ok a w1 => rw [hr] at h; exact (hs P w a w1 hr).trans (hf a P w1 b w' h)
  | halt x w1 => rw [hr] at h; cases h
theorem mild_halt (x : Halt) : Mild (Sem.halt x : Sem α) := by intro P w b w' h; cases h
theorem mild_stuck (s : String) : Mild (stuck s : Sem α) := mild_halt _
theorem mild_unsupported (u : Unsupported) : Mild (unsupported u : Sem α) := mild_halt _
theorem mild_goPanic (v : Value) : Mild (goPanic v : Sem α) := mild_halt _
theorem mild_load (a : Addr) : Mild (load a) := by
  intro P w b w' h
  simp only [run_load] at h
  split at h
  · cases h; exact Ext.refl _
  · split at h
    · cases h; exact Ext.refl _
    · cases h
theorem mild_new (o : Obj) : Mild (newObj o) := by
  intro P w b w' h
  simp only [run_newObj] at h
  cases h
  refine ⟨⟨rfl, rfl, rfl⟩, fun b x hb => ?_⟩
  have hlt := (Array.getElem?_eq_some_iff.1 hb).1
  show (w.heap.push o)[b]? = some x
  rw [Array.getElem?_push_lt hlt, ← hb]
  exact (Array.getElem?_eq_getElem hlt).symm
theorem mild_program : Mild program := by intro P w b w' h; cases h; exact Ext.refl _
theorem mild_shape (r : Nat) : Mild (shape r) := by intro P w b w' h; cases h; exact Ext.refl _
theorem mild_frozen (a : Addr) : Mild (frozen a) := by intro P w b w' h; cases h; exact Ext.refl _
theorem mild_choose (q : Question) : Mild (choose q) := by
  intro P w b w' h
  simp only [run_choose] at h
  split at h <;> cases h
  · exact Ext.refl _
  · exact ⟨⟨rfl, rfl, rfl⟩, fun _ _ h => h⟩
theorem mild_getObj (r : Nat) : Mild (getObj r) := by
  intro P w b w' h
  simp only [getObj, Sem.run] at h
  split at h <;> cases h
  exact Ext.refl _
theorem mild_ite {c : Prop} [Decidable c] {s t : Sem α} (hs : Mild s) (ht : Mild t) : Mild (if c then s else t) := by
  split
  · exact hs
  · exact ht
theorem mild_askRoom (n : Nat) : Mild (askRoom n) := by
  intro P w b w' h
  simp only [run_askRoom] at h
  cases h; exact Ext.refl _
end

theorem mild_typeInfo (t : TypeId) : Mild (typeInfo t) := by
  unfold typeInfo
  refine mild_bind mild_program fun p => ?_
  split
  · exact mild_pure _
  · exact mild_stuck _
theorem mild_underlying (t : TypeId) : Mild (underlying t) := by
  unfold underlying
  refine mild_bind mild_program fun p => ?_
  split
  · exact mild_pure _
  · exact mild_stuck _
theorem mild_sizeOf (t : TypeId) : Mild (Go.sizeOf t) := by
  unfold Go.sizeOf
  exact mild_bind (mild_typeInfo t) fun _ => mild_pure _
theorem mild_zeroValue (t : TypeId) : Mild (zeroValue t) := by
  unfold zeroValue
  refine mild_bind (mild_typeInfo t) fun i => ?_
  split
  · exact mild_pure _
  · exact mild_unsupported _
theorem mild_isAgg (t : TypeId) : Mild (isAgg t) := by
  unfold isAgg
  refine mild_bind (mild_underlying t) fun d => ?_
  split <;> exact mild_pure _
theorem mild_loadCellsFrom (a : Addr) : ∀ (n i : Nat) (acc : Array Value), Mild (loadCellsFrom a i n acc)
  | 0, i, acc => mild_pure _
  | n + 1, i, acc => mild_bind (mild_load _) fun v => mild_loadCellsFrom a n (i + 1) _
theorem mild_loadCells (a : Addr) (n : Nat) : Mild (loadCells a n) := mild_loadCellsFrom a n 0 _
theorem mild_loadVar (t : TypeId) (a : Addr) : Mild (loadVar t a) := by
  unfold loadVar
  refine mild_bind (mild_isAgg t) fun b => ?_
  split
  · exact mild_bind (mild_sizeOf t) fun n => mild_bind (mild_loadCells a n) fun _ => mild_pure _
  · exact mild_load a
theorem mild_sureAddr (v : Value) : Mild (Instr.sureAddr v) := by
  unfold Instr.sureAddr
  split
  · exact mild_pure _
  · exact mild_stuck _
theorem mild_newRow (t : TypeId) (c : Array Value) : Mild (newRow t c) := by
  unfold newRow
  exact mild_bind (mild_new _) fun _ => mild_pure _

/-- Operations of which it is known, whatever they are given. -/
def mildOp (o : Op) : Bool :=
  match o with
  | .move _ | .assign _ | .pick .. | .load .. | .box .. | .alloc _ | .extract .. => true
  | .call c => (match c.callee, c.argTypes.toList, c.args.toList with
    | .builtin .len, [_], [_] => true
    | _, _, _ => false)
  | _ => false

theorem mild_len (t ty : TypeId) (x : Value) : Mild (Builtin.len_ #[t] ty #[x]) := by
  unfold Builtin.len_
  refine mild_bind (mild_underlying t) fun d => ?_
  split
  · exact mild_pure _
  · exact mild_pure _
  · refine mild_bind (mild_underlying _) fun d => ?_
    split
    · exact mild_pure _
    · exact mild_stuck _
  · exact mild_pure _
  · exact mild_pure _
  · exact mild_pure _
  · refine mild_bind (mild_getObj _) fun d => ?_
    split
    · exact mild_pure _
    · exact mild_stuck _
  · refine mild_bind (mild_getObj _) fun d => ?_
    split
    · exact mild_pure _
    · exact mild_stuck _
  · exact mild_stuck _

theorem mildOp_sound {P : Program} {o : Oper} (h : mildOp o.op = true) (ρ : Operand → Value) {w w' : World} {n : Next} (hr : (execOp ρ o).run P w = .ok n w') : Ext w w' ∧ ∃ v, n = .value v := by
  have val : ∀ s : Sem Value, execOp ρ o = (do pure (Next.value (← s))) → Mild s → Ext w w' ∧ ∃ v, n = .value v := by
    intro s hs hm
    rw [hs] at hr
    simp only [Sem.run_bind] at hr
    cases h1 : s.run P w with
    | ok a w1 =>
      rw [h1] at hr
      simp at hr
      obtain ⟨rfl, rfl⟩ := hr
      exact ⟨hm P w a w1 h1, _, rfl⟩
    | halt x w1 => rw [h1] at hr; cases hr
  unfold mildOp at h
  split at h
  · rename_i x ho
    simp only [execOp, ho] at hr
    cases hr; exact ⟨Ext.refl _, _, rfl⟩
  · rename_i x ho
    simp only [execOp, ho] at hr
    cases hr; exact ⟨Ext.refl _, _, rfl⟩
  · rename_i c a b ho
    refine val (do pure (if ← asBool (ρ c) then ρ a else ρ b)) (by simp only [execOp, ho]; simp) ?_
    refine mild_bind ?_ fun _ => mild_pure _
    unfold asBool
    split
    · exact mild_pure _
    · exact mild_stuck _
  · rename_i t a ho
    exact val (Instr.loadAt t (ρ a)) (by simp only [execOp, ho]) (by unfold Instr.loadAt; exact mild_bind (mild_sureAddr _) fun _ => mild_loadVar _ _)
  · rename_i t x ho
    exact val (Instr.box t (ρ x)) (by simp only [execOp, ho]) (by unfold Instr.box; exact mild_bind (mild_newRow _ _) fun _ => mild_pure _)
  · rename_i t ho
    refine val (Instr.alloc t true (.tuple #[])) (by simp only [execOp, ho]) ?_
    unfold Instr.alloc
    refine mild_bind (mild_zeroValue _) fun z => ?_
    exact mild_bind (mild_newRow _ _) fun _ => mild_pure _
  · rename_i t i ho
    refine val (Instr.extract (ρ t) i) (by simp only [execOp, ho]) ?_
    unfold Instr.extract
    split
    · split
      · exact mild_pure _
      · exact mild_stuck _
    · exact mild_stuck _
  · rename_i c ho
    split at h
    · rename_i t x hc ht hx
      refine val _ ?_ (mild_len t o.type (ρ x))
      rw [run_builtin ho hc, toList_one ht, toList_one hx]
      simp only [builtin, List.map_toArray, List.map_cons, List.map_nil]
    · cases h
  · cases h
end Vx
