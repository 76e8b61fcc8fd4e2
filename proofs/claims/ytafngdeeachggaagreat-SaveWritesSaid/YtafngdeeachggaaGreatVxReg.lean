/- Regions: in the order of the text, and in whatever order is drawn. -/
import Derived.Test.YtafngdeeachggaaGreatVxOp
import Derived.Deep.Quiet
import Derived.StillTail
set_option linter.unusedVariables false
set_option linter.unusedSimpArgs false
namespace Vx
open Go

abbrev SpecT := List SV → Hp → (SV → Hp → Prop) → Prop
/-- What a function's symbolic twin says is so. -/
def CallOk (P : Program) (call : Nat → SpecT) : Prop :=
  ∀ f args hp K, call f args hp K → (∀ vs w, (callFunc f vs).run P w = .ok (.enter f vs) w) ∧
    ∀ F β w, Sat F β hp w → (∀ x ∈ args, x.one = true ∧ x.wf β.length) → Calls P f (args.map (SV.val β)).toArray w (fun e w' => ∃ v, e = .returned v ∧ Yld F β K v w')

/-- A world that holds all that another one held. -/
structure Ext (w w' : World) : Prop where
  outer : w'.tape = w.tape ∧ w'.os = w.os ∧ w'.output = w.output
  heap : ∀ (b : Nat) (o : Obj), w.heap[b]? = some o → w'.heap[b]? = some o
theorem Ext.refl (w : World) : Ext w w := ⟨⟨rfl, rfl, rfl⟩, fun _ _ h => h⟩
theorem Ext.trans {w w' w'' : World} (h : Ext w w') (h' : Ext w' w'') : Ext w w'' :=
  ⟨⟨h'.outer.1.trans h.outer.1, h'.outer.2.1.trans h.outer.2.1, h'.outer.2.2.trans h.outer.2.2⟩, fun b o hb => h'.heap b o (h.heap b o hb)⟩
theorem Sat.extend {F : Fr} {β : List Nat} {hp : Hp} {w w' : World} (h : Sat F β hp w) (he : Ext w w') : Sat F β hp w' :=
  ⟨h.n, ⟨he.outer.1.trans h.outer.1, he.outer.2.1.trans h.outer.2.1, he.outer.2.2.trans h.outer.2.2⟩, fun b o hb => he.heap b o (h.ext b o hb),
    fun id o hm => let ⟨a, b, c, d⟩ := h.own id o hm; ⟨a, b, c, he.heap _ _ d⟩, h.apart, h.ro, h.disj⟩

abbrev QSpecT := List SV → Hp → (SV → Prop) → Prop
/-- A function that leaves all memory as it was: one value, in every world that the heap describes. -/
def QCallOk (P : Program) (call : Nat → QSpecT) : Prop :=
  ∀ f args hp K, call f args hp K → (∀ vs w, (callFunc f vs).run P w = .ok (.enter f vs) w) ∧
    ∀ F β w, Sat F β hp w → (∀ x ∈ args, x.one = true ∧ x.wf β.length) →
      ∃ sv, K sv ∧ sv.one = true ∧ sv.wf β.length ∧ ∀ w', Sat F β hp w' → Calls P f (args.map (SV.val β)).toArray w' (fun e w'' => e = .returned (sv.val β) ∧ Ext w' w'')

/-- The executor's settings. -/
structure Cfg where
  P : Program
  zt : List (TypeId × SV)
  qs : List Nat
  qcall : Nat → QSpecT
structure CfgOk (C : Cfg) : Prop where
  z : ZOk C.P C.zt
  qcall : QCallOk C.P C.qcall
  mixed : C.P.follows .mixedOrders = true

def rowList : SV → Option (List SV)
  | .nil => some []
  | .cons h t => bif h.one then (match rowList t with
    | some l => some (h :: l)
    | none => none) else none
  | _ => none

def evList (e : Operand → SV) : List Operand → List SV
  | [] => []
  | x :: r => e x :: evList e r

/-- A call of a function. -/
def calleeOf (c : Call) (e : Operand → SV) : Option (Nat × List SV) :=
  match c.callee with
  | .value (.func f) => some (f, evList e c.args.toList)
  | .value x => (match e x with
    | .fn (.func f) caps => (match rowList caps with
      | some l => some (f, evList e c.args.toList ++ l)
      | none => none)
    | _ => none)
  | _ => none

section
variable {P : Program} {F : Fr} {β : List Nat} {hp : Hp} {w : World} {zt : List (TypeId × SV)} {ρ : Operand → Value} {e : Operand → SV} {C : Cfg}

theorem rowList_sound : ∀ (x : SV) (l : List SV), x.wf β.length → rowList x = some l → (∀ y ∈ l, y.one = true ∧ y.wf β.length) ∧ x.vals β = l.map (SV.val β) := by
  intro x
  induction x with
  | nil => intro l _ h; cases h; exact ⟨(fun y hy => by cases hy), rfl⟩
  | cons a t _ iht =>
    intro l hw h
    simp only [rowList] at h
    cases h1 : a.one <;> rw [h1] at h
    · cases h
    · simp only [cond_true] at h
      split at h
      · rename_i l' hl'
        cases h
        obtain ⟨g1, g2⟩ := iht l' hw.2 hl'
        refine ⟨fun y hy => ?_, by simp [SV.vals, SV.vals_one β h1, g2]⟩
        rcases List.mem_cons.1 hy with rfl | hy
        · exact ⟨h1, hw.1⟩
        · exact g1 y hy
      · cases h
  | _ => intro l _ h; cases h
theorem evList_ok (he : EvOk β ρ e) : ∀ l : List Operand, (∀ y ∈ evList e l, y.one = true ∧ y.wf β.length) ∧ (evList e l).map (SV.val β) = l.map ρ
  | [] => ⟨(fun y hy => by cases hy), rfl⟩
  | x :: r => by
    obtain ⟨h1, h2⟩ := evList_ok he r
    obtain ⟨g1, g2, g3⟩ := he x
    refine ⟨fun y hy => ?_, by simp [evList, h2, g3]⟩
    rcases List.mem_cons.1 hy with rfl | hy
    · exact ⟨g1, g2⟩
    · exact h1 y hy

theorem calleeOf_sound (he : EvOk β ρ e) (hglob : ∀ f, ρ (.func f) = .func (.func f) #[] #[]) {o : Oper} {c : Call} (ho : o.op = .call c) {f : Nat} {args : List SV} (h : calleeOf c e = some (f, args)) :
    (∀ y ∈ args, y.one = true ∧ y.wf β.length) ∧ execOp ρ o = callFunc f (args.map (SV.val β)).toArray := by
  obtain ⟨g1, g2⟩ := evList_ok he c.args.toList
  have hargs : c.args.map ρ = ((evList e c.args.toList).map (SV.val β)).toArray := by
    rw [g2]; apply Array.ext'; simp
  unfold calleeOf at h
  split at h
  · rename_i f' hc
    cases h
    refine ⟨g1, ?_⟩
    simp only [execOp, ho, resolve, hc, hglob, Deferred.ofValue, hargs]
    simp [invoke]
  · rename_i x hne hc
    split at h
    · rename_i f' caps hx
      split at h
      · rename_i l hl
        cases h
        have hcw := (he x).2.1
        rw [hx] at hcw
        obtain ⟨k1, k2⟩ := rowList_sound caps l hcw hl
        refine ⟨fun y hy => (List.mem_append.1 hy).elim (g1 y) (k1 y), ?_⟩
        have hxv := (he x).2.2
        rw [hx] at hxv
        simp only [execOp, ho, resolve, hc, hxv, SV.val, SV.vals, List.headD_cons, Deferred.ofValue, hargs, k2]
        simp [invoke]
      · cases h
    · cases h
  · cases h

def xOper (C : Cfg) (call : Nat → SpecT) (o : Op) (e : Operand → SV) (hp : Hp) (K : SV → Hp → Prop) : Prop :=
  match kindOf C.P o with
  | .pure => xPure C.P C.zt o e fun v => K v hp
  | .read => xRead C.P C.zt o e hp fun v => K v hp
  | .act => xAct C.P C.zt o e hp K
  | .call => (match o with
    | .call c => (match calleeOf c e with
      | some (f, args) => call f args hp K
      | none => False)
    | _ => False)

theorem xOper_sound (hC : CfgOk C) {call : Nat → SpecT} (hcall : CallOk C.P call) {a : Act} (hS : Sat F β hp w) {o : Oper} (he : EvOk β a.eval e) {K : SV → Hp → Prop} {next : Act → World → Prop} {Q : Exit → Act → World → Prop}
    (h : xOper C call o.op e hp K) (hK : ∀ v w', Yld F β K v w' → next (a.put o.dst v) w') : o.wp C.P a w next Q := by
  unfold xOper at h
  split at h
  · obtain ⟨sv, h1, h2, h3, h4⟩ := xPure_sound hC.z he h
    unfold Oper.wp
    rw [h4 w]
    exact hK _ _ (yld_same hS h2 h3 rfl h1)
  · obtain ⟨sv, h1, h2, h3, h4⟩ := xRead_sound hC.z hS he h
    unfold Oper.wp
    rw [h4 w hS]
    exact hK _ _ (yld_same hS h2 h3 rfl h1)
  · obtain ⟨n, v, w', h1, h2, h3⟩ := xAct_sound hC.z hS he h
    unfold Oper.wp
    rw [h1]
    rcases h2 with rfl | ⟨rfl, rfl⟩
    · exact hK _ _ h3
    · exact hK _ _ h3
  · split at h
    · rename_i c ho
      split at h
      · rename_i f args hca
        obtain ⟨g1, g2⟩ := calleeOf_sound he (fun f => rfl) ho hca
        obtain ⟨k1, k2⟩ := hcall f args hp K h
        unfold Oper.wp
        rw [g2, k1]
        refine (k2 F β w hS g1).mono ?_
        rintro en w' ⟨v, rfl, hy⟩
        exact hK v w' hy
      · exact h.elim
    · exact h.elim

/-! ### Guards -/

def dstOf (ops : Array Oper) (j : Nat) : Option Tmp := (ops[j]?).bind (·.dst)
def guardK (ops : Array Oper) (T : Tm) (g : Option (Nat × Bool)) (run skip : Tm → Prop) : Prop :=
  match g with
  | none => run T
  | some (j, want) => match dstOf ops j with
    | none => False
    | some t => match nth T t with
      | .bool (.lit b) => (match b, want with
        | true, true | false, false => run T
        | _, _ => skip T)
      | .bool (.v b) => (b = true → (bif want then run (setT T t (.bool (.lit true))) else skip (setT T t (.bool (.lit true))))) ∧
          (b = false → (bif want then skip (setT T t (.bool (.lit false))) else run (setT T t (.bool (.lit false)))))
      | .opq (.tuple _) => bif Nat.blt t T.n then skip T else False
      | _ => False

theorem nth_lt {T : Tm} {t : Nat} {x : SV} (h : nth T t = x) (hx : x ≠ .opq undef) : t < T.n ∧ look T.d t T.l = x := by
  unfold nth at h
  cases hb : Nat.blt t T.n <;> rw [hb] at h
  · exact absurd h.symm hx
  · exact ⟨blt_t hb, h⟩
theorem TOk.setSame {T : Tm} {a : Act} (h : TOk β T a) {t : Nat} {x y : SV} (hx : look T.d t T.l = x) (hy1 : y.one = true) (hy2 : y.wf β.length) (hv : y.val β = x.val β) : TOk β (setT T t y) a := by
  refine ⟨h.size, ?_, ?_, h.defers⟩
  · intro j hj
    simp only [setT, look]
    by_cases hjt : t = j
    · subst hjt; rw [beq_self]
      have := h.tmps t hj
      rw [this, hx]
      simp [hv]
    · rw [beq_ne hjt]; exact h.tmps j hj
  · intro j
    simp only [setT, look]
    by_cases hjt : t = j
    · subst hjt; rw [beq_self]; exact ⟨hy1, hy2⟩
    · rw [beq_ne hjt]; exact h.ok j

theorem guardK_sound {ops : Array Oper} {T : Tm} {a : Act} (hT : TOk β T a) {o : Oper} {run skip : Tm → Prop} (h : guardK ops T o.guard run skip) :
    ∃ T', TOk β T' a ∧ ((Region.wanted o (yielded ops a.tmps) = true ∧ run T') ∨ (Region.wanted o (yielded ops a.tmps) = false ∧ skip T')) := by
  unfold guardK at h
  split at h
  · rename_i hg
    exact ⟨T, hT, .inl ⟨by simp [Region.wanted, hg], h⟩⟩
  · rename_i j want hg
    split at h
    · exact h.elim
    · rename_i t ht
      have hyld : ∀ b : BE, nth T t = .bool b → yielded ops a.tmps j = some b.den ∧ look T.d t T.l = .bool b := by
        intro b hb
        have h1 := nth_lt hb (by intro h; cases h)
        refine ⟨?_, h1.2⟩
        have h2 : a.tmps[t]? = some (.bool b.den) := by rw [hT.tmps t h1.1, h1.2]; rfl
        unfold dstOf at ht
        simp only [yielded, ht, Option.bind_some, h2]
      split at h
      · rename_i b hb
        obtain ⟨h1, _⟩ := hyld _ hb
        have hw : Region.wanted o (yielded ops a.tmps) = (b == want) := by
          simp only [Region.wanted, hg, h1, BE.den]
          cases b <;> cases want <;> rfl
        refine ⟨T, hT, ?_⟩
        rw [hw]
        cases b <;> cases want <;> first | exact .inl ⟨rfl, h⟩ | exact .inr ⟨rfl, h⟩
      · rename_i b hb
        obtain ⟨h1, h2⟩ := hyld _ hb
        have hw : Region.wanted o (yielded ops a.tmps) = (b == want) := by
          simp only [Region.wanted, hg, h1, BE.den]
          cases b <;> cases want <;> rfl
        rw [hw]
        cases hb' : b
        · have h3 := h.2 hb'
          refine ⟨_, hT.setSame h2 (y := .bool (.lit false)) rfl trivial (by simp [val_bool, BE.den, hb']), ?_⟩
          cases want
          · exact .inl ⟨rfl, h3⟩
          · exact .inr ⟨rfl, h3⟩
        · have h3 := h.1 hb'
          refine ⟨_, hT.setSame h2 (y := .bool (.lit true)) rfl trivial (by simp [val_bool, BE.den, hb']), ?_⟩
          cases want
          · exact .inr ⟨rfl, h3⟩
          · exact .inl ⟨rfl, h3⟩
      · rename_i cs hb
        cases hlt : Nat.blt t T.n <;> rw [hlt] at h
        · exact h.elim
        · refine ⟨T, hT, .inr ⟨?_, h⟩⟩
          unfold nth at hb
          rw [hlt, cond_true] at hb
          have h2 : a.tmps[t]? = some (.tuple cs) := by rw [hT.tmps t (blt_t hlt), hb]; rfl
          unfold dstOf at ht
          simp [Region.wanted, hg, yielded, ht, h2]
      · exact h.elim

/-! ### In the order of the text -/

/-- The frame and the heap, some blocks later. -/
def Post (F : Fr) (β : List Nat) (K : Tm → Hp → Prop) (a : Act) (w : World) : Prop :=
  ∃ γ T hp, TOk (β ++ γ) T a ∧ Sat F (β ++ γ) hp w ∧ K T hp
theorem Post.later {K : Tm → Hp → Prop} {a : Act} {γ : List Nat} (h : Post F (β ++ γ) K a w) : Post F β K a w := by
  obtain ⟨δ, T, hp, h1, h2, h3⟩ := h
  exact ⟨γ ++ δ, T, hp, by rw [← List.append_assoc]; exact h1, by rw [← List.append_assoc]; exact h2, h3⟩
/-- Ends in the usual way alone. -/
def Qn (R : Act → World → Prop) : Exit → Act → World → Prop
  | .normal, a, w => R a w
  | _, _, _ => False

def xOps (C : Cfg) (call : Nat → SpecT) (ops : Array Oper) : List Oper → Tm → Hp → (Tm → Hp → Prop) → Prop
  | [], T, hp, K => K T hp
  | o :: rest, T, hp, K =>
    guardK ops T o.guard
      (fun T => xOper C call o.op (ev T) hp fun v hp' => xOps C call ops rest (putT T o.dst v) hp' K)
      (fun T => xOps C call ops rest (putT T o.dst (.opq undef)) hp K)

theorem xOps_sound (hC : CfgOk C) {call : Nat → SpecT} (hcall : CallOk C.P call) {ops : Array Oper} {R : Act → World → Prop} : ∀ (l : List Oper) (β : List Nat) (T : Tm) (hp : Hp) (a : Act) (w : World) (K : Tm → Hp → Prop),
    TOk β T a → Sat F β hp w → xOps C call ops l T hp K → (∀ a w, Post F β K a w → R a w) → wpList C.P ops (Qn R) l a w := by
  intro l
  induction l with
  | nil =>
    intro β T hp a w K hT hS h hR
    exact hR _ _ ⟨[], T, hp, by simpa using hT, by simpa using hS, h⟩
  | cons o rest ih =>
    intro β T hp a w K hT hS h hR
    simp only [xOps] at h
    obtain ⟨T', hT', hg⟩ := guardK_sound hT h
    simp only [wpList]
    rcases hg with ⟨hw, hr⟩ | ⟨hw, hs⟩
    · rw [if_pos hw]
      refine .inl (xOper_sound hC hcall hS hT'.ev hr fun v w' hy => ?_)
      obtain ⟨γ, sv, hp', k1, k2, k3, rfl, k5⟩ := hy
      exact ih (β ++ γ) _ hp' (a.put o.dst (sv.val (β ++ γ))) w' K ((hT'.append (γ := γ)).put o.dst k2 k3) k1 k5 fun a w h => hR a w h.later
    · rw [if_neg (by rw [hw]; simp)]
      exact ih β _ hp _ w K (hT'.put o.dst (x := .opq undef) rfl trivial) hS hs hR

/-! ### In whatever order: all operations leave the world as it is -/

/-- A call that leaves memory as it was. -/
def isQ (qs : List Nat) (o : Op) : Bool :=
  match o with
  | .call c => (match c.callee with
    | .value (.func f) => qs.any (Nat.beq f)
    | _ => false)
  | _ => false
def xQop (C : Cfg) (o : Op) (e : Operand → SV) (hp : Hp) (K : SV → Prop) : Prop :=
  match kindOf C.P o with
  | .pure => xPure C.P C.zt o e K
  | .read => xRead C.P C.zt o e hp K
  | .act => False
  | .call => (match o with
    | .call c => (match calleeOf c e with
      | some (f, args) => C.qcall f args hp K
      | none => False)
    | _ => False)

theorem xQop_sound (hC : CfgOk C) {a : Act} (hS : Sat F β hp w) {o : Oper} (he : EvOk β a.eval e) {K : SV → Prop} (h : xQop C o.op e hp K) :
    ∃ sv, K sv ∧ sv.one = true ∧ sv.wf β.length ∧ ∀ w', Ext w w' → o.quietAt C.P a (Ext w) w' (sv.val β) := by
  unfold xQop at h
  split at h
  · obtain ⟨sv, h1, h2, h3, h4⟩ := xPure_sound hC.z he h
    refine ⟨sv, h1, h2, h3, fun w' _ => ?_⟩
    unfold Oper.quietAt
    rw [h4 w']
    exact ⟨rfl, rfl⟩
  · obtain ⟨sv, h1, h2, h3, h4⟩ := xRead_sound hC.z hS he h
    refine ⟨sv, h1, h2, h3, fun w' hw' => ?_⟩
    unfold Oper.quietAt
    rw [h4 w' (hS.extend hw')]
    exact ⟨rfl, rfl⟩
  · exact h.elim
  · split at h
    · rename_i c ho
      split at h
      · rename_i f args hca
        obtain ⟨g1, g2⟩ := calleeOf_sound he (fun f => rfl) ho hca
        obtain ⟨k1, k2⟩ := hC.qcall f args hp K h
        obtain ⟨sv, h1, h2, h3, h4⟩ := k2 F β w hS g1
        refine ⟨sv, h1, h2, h3, fun w' hw' => ?_⟩
        unfold Oper.quietAt
        rw [g2, k1]
        exact ⟨rfl, (h4 w' (hS.extend hw')).mono fun en w'' ⟨h5, h6⟩ => ⟨h5, hw'.trans h6⟩⟩
      · exact h.elim
    · exact h.elim

def xQops (C : Cfg) (ops : Array Oper) : List Oper → Tm → Hp → (Tm → Prop) → Prop
  | [], T, _, K => K T
  | o :: rest, T, hp, K =>
    guardK ops T o.guard
      (fun T => xQop C o.op (ev T) hp fun v => xQops C ops rest (putT T o.dst v) hp K)
      (fun T => xQops C ops rest (putT T o.dst (.opq undef)) hp K)

theorem xQops_sound (hC : CfgOk C) {ops : Array Oper} (hS : Sat F β hp w) {R : Act → Prop} : ∀ (l : List Oper) (T : Tm) (a : Act) (K : Tm → Prop),
    TOk β T a → xQops C ops l T hp K → (∀ T a, TOk β T a → K T → R a) → wpQuiet C.P ops (Ext w) R l a := by
  intro l
  induction l with
  | nil => intro T a K hT h hR; exact hR T a hT h
  | cons o rest ih =>
    intro T a K hT h hR
    simp only [xQops] at h
    obtain ⟨T', hT', hg⟩ := guardK_sound hT h
    simp only [wpQuiet]
    rcases hg with ⟨hw, hr⟩ | ⟨hw, hs⟩
    · rw [if_pos hw]
      obtain ⟨sv, h1, h2, h3, h4⟩ := xQop_sound hC hS hT'.ev hr
      exact ⟨sv.val β, h4, ih _ _ K (hT'.put o.dst h2 h3) h1 hR⟩
    · rw [if_neg (by rw [hw]; simp)]
      exact ih _ _ K (hT'.put o.dst (x := .opq undef) rfl trivial) hs hR

/-! ### In whatever order: operations that leave the world as it is, then others one behind the other -/

/-- An operation that only computes or reads. -/
def xSop (C : Cfg) (o : Op) (e : Operand → SV) (hp : Hp) (K : SV → Prop) : Prop :=
  match kindOf C.P o with
  | .pure => xPure C.P C.zt o e K
  | .read => xRead C.P C.zt o e hp K
  | _ => False
def xSops (C : Cfg) (ops : Array Oper) : List Oper → Tm → Hp → (Tm → Prop) → Prop
  | [], T, _, K => K T
  | o :: rest, T, hp, K =>
    guardK ops T o.guard
      (fun T => xSop C o.op (ev T) hp fun v => xSops C ops rest (putT T o.dst v) hp K)
      (fun T => xSops C ops rest (putT T o.dst (.opq undef)) hp K)
theorem xSops_sound (hC : CfgOk C) {ops : Array Oper} (hS : Sat F β hp w) {R : Act → Prop} : ∀ (l : List Oper) (T : Tm) (a : Act) (K : Tm → Prop),
    TOk β T a → xSops C ops l T hp K → (∀ T a, TOk β T a → K T → R a) → wpStill C.P ops w R l a := by
  intro l
  induction l with
  | nil => intro T a K hT h hR; exact hR T a hT h
  | cons o rest ih =>
    intro T a K hT h hR
    simp only [xSops] at h
    obtain ⟨T', hT', hg⟩ := guardK_sound hT h
    simp only [wpStill]
    rcases hg with ⟨hw, hr⟩ | ⟨hw, hs⟩
    · rw [if_pos hw]
      unfold xSop at hr
      split at hr
      · obtain ⟨sv, h1, h2, h3, h4⟩ := xPure_sound hC.z hT'.ev hr
        unfold Oper.still
        rw [h4 w]
        exact ⟨rfl, ih _ _ K (hT'.put o.dst h2 h3) h1 hR⟩
      · obtain ⟨sv, h1, h2, h3, h4⟩ := xRead_sound hC.z hS hT'.ev hr
        unfold Oper.still
        rw [h4 w hS]
        exact ⟨rfl, ih _ _ K (hT'.put o.dst h2 h3) h1 hR⟩
      · exact hr.elim
    · rw [if_neg (by rw [hw]; simp)]
      exact ih _ _ K (hT'.put o.dst (x := .opq undef) rfl trivial) hs hR

end
end Vx
