/- One operation of a region, on symbolic values. -/
import Derived.Test.YtafngdeeachggaaGreatVxMap
set_option linter.unusedVariables false
set_option linter.unusedSimpArgs false
namespace Vx
open Go

/-- The temporaries: how many there are; what was put into them (the first row of a number counts); what the others hold. -/
structure Tm where
  n : Nat
  l : List (Nat × SV)
  d : Nat → Value
def look (d : Nat → Value) (t : Nat) : List (Nat × SV) → SV
  | [] => .opq (d t)
  | (j, x) :: r => bif Nat.beq j t then x else look d t r
def nth (T : Tm) (t : Nat) : SV := bif Nat.blt t T.n then look T.d t T.l else .opq undef
def setT (T : Tm) (t : Nat) (x : SV) : Tm := ⟨T.n, (t, x) :: T.l, T.d⟩

structure TOk (β : List Nat) (T : Tm) (a : Act) : Prop where
  size : a.tmps.size = T.n
  tmps : ∀ t, t < T.n → a.tmps[t]? = some ((look T.d t T.l).val β)
  ok : ∀ t, (look T.d t T.l).one = true ∧ (look T.d t T.l).wf β.length
  defers : a.defers = []

def ev (T : Tm) : Operand → SV
  | .tmp t => nth T t
  | .const v => openV v
  | .global g => .gptr g 0
  | .func f => .opq (.func (.func f) #[] #[])
/-- What operands are. -/
def EvOk (β : List Nat) (ρ : Operand → Value) (e : Operand → SV) : Prop := ∀ x, (e x).one = true ∧ (e x).wf β.length ∧ ρ x = (e x).val β

theorem undef_opq (β : List Nat) : (SV.opq undef).val β = undef := rfl
theorem blt_of {a b : Nat} (h : a < b) : Nat.blt a b = true := Nat.ble_eq_true_of_le h
theorem blt_not {a b : Nat} (h : b ≤ a) : Nat.blt a b = false := by
  cases hb : Nat.blt a b
  · rfl
  · exact absurd (blt_t hb) (by omega)
theorem TOk.ev {β : List Nat} {T : Tm} {a : Act} (h : TOk β T a) : EvOk β a.eval (Vx.ev T) := by
  intro x
  cases x with
  | tmp t =>
    simp only [Vx.ev, nth, Act.eval]
    rcases Nat.lt_or_ge t T.n with ht | ht
    · rw [blt_of ht]
      refine ⟨(h.ok t).1, (h.ok t).2, ?_⟩
      have := h.tmps t ht
      simp [this]
    · rw [blt_not ht]
      refine ⟨rfl, trivial, ?_⟩
      have hs := h.size
      have : a.tmps[t]? = none := Array.getElem?_eq_none (by omega)
      simp [this]; rfl
  | const v => exact ⟨openV_one v, openV_wf _ v, by simp [Vx.ev, Act.eval, SV.val, openV_vals]⟩
  | global g => exact ⟨rfl, trivial, rfl⟩
  | func f => exact ⟨rfl, trivial, rfl⟩

theorem TOk.append {β γ : List Nat} {T : Tm} {a : Act} (h : TOk β T a) : TOk (β ++ γ) T a :=
  ⟨h.size, fun t ht => by rw [h.tmps t ht, SV.val_append β γ _ (h.ok t).2], fun t => ⟨(h.ok t).1, SV.wf_mono (by simp) _ (h.ok t).2⟩, h.defers⟩

def putT (T : Tm) (d : Option Tmp) (x : SV) : Tm :=
  match d with
  | some t => setT T t x
  | none => T
theorem TOk.put {β : List Nat} {T : Tm} {a : Act} (h : TOk β T a) (d : Option Tmp) {x : SV} (h1 : x.one = true) (h2 : x.wf β.length) : TOk β (putT T d x) (a.put d (x.val β)) := by
  cases d with
  | none => exact h
  | some t =>
    refine ⟨?_, ?_, ?_, h.defers⟩
    · simp [putT, setT, Act.put, h.size]
    · intro j hj
      simp only [putT, setT, look, Act.put]
      by_cases hjt : t = j
      · subst hjt
        rw [beq_self]
        have : t < a.tmps.size := by rw [h.size]; exact hj
        simp [this]
      · rw [beq_ne hjt, Array.getElem?_setIfInBounds_ne hjt]
        exact h.tmps j hj
    · intro j
      simp only [putT, setT, look]
      by_cases hjt : t = j
      · subst hjt; rw [beq_self]; exact ⟨h1, h2⟩
      · rw [beq_ne hjt]; exact h.ok j

/-- Operands as a row. -/
def evRow (e : Operand → SV) : List Operand → SV
  | [] => .nil
  | x :: r => .cons (e x) (evRow e r)
def evOpt (e : Operand → SV) : Option Operand → Option SV
  | none => none
  | some x => some (e x)
def evParts (e : Operand → SV) : List (Nat × Operand) → List (Nat × SV)
  | [] => []
  | (i, x) :: r => (i, e x) :: evParts e r

section
variable {P : Program} {F : Fr} {β : List Nat} {hp : Hp} {w : World} {zt : List (TypeId × SV)} {ρ : Operand → Value} {e : Operand → SV}

theorem evRow_ok (he : EvOk β ρ e) : ∀ l : List Operand, (evRow e l).wf β.length ∧ (evRow e l).vals β = l.map ρ
  | [] => ⟨trivial, rfl⟩
  | x :: r => by
    obtain ⟨h1, h2⟩ := evRow_ok he r
    obtain ⟨g1, g2, g3⟩ := he x
    exact ⟨⟨g2, h1⟩, by simp [evRow, SV.vals, SV.vals_one β g1, h2, g3]⟩
theorem evOpt_ok (he : EvOk β ρ e) (x : Option Operand) : (evOpt e x).map (SV.val β) = x.map ρ := by
  cases x with
  | none => rfl
  | some x => simp [evOpt, (he x).2.2]
theorem evParts_ok (he : EvOk β ρ e) : ∀ l : List (Nat × Operand), (∀ p ∈ evParts e l, p.2.one = true ∧ p.2.wf β.length) ∧ ((evParts e l).map fun p => (p.1, p.2.val β)) = l.map fun p => (p.1, ρ p.2)
  | [] => ⟨(fun p hp => by cases hp), rfl⟩
  | (i, x) :: r => by
    obtain ⟨h1, h2⟩ := evParts_ok he r
    obtain ⟨g1, g2, g3⟩ := he x
    refine ⟨(fun p hp => ?_), by simp [evParts, h2, g3]⟩
    rcases List.mem_cons.1 hp with rfl | hp
    · exact ⟨g1, g2⟩
    · exact h1 p hp

/-- Not nil for sure. -/
def notNil : SV → Bool
  | .ptr .. | .gptr .. | .iface .. | .map _ | .slice .. => true
  | _ => false

/-- Operations that only compute. -/
def xPure (P : Program) (zt : List (TypeId × SV)) (o : Op) (e : Operand → SV) (K : SV → Prop) : Prop :=
  match o with
  | .move x | .assign x => K (e x)
  | .pick c a b => (match e c with
    | .bool (.lit t) => K (bif t then e a else e b)
    | .bool (.v t) => (match e a, e b with
      | .bool x, .bool y => K (.bool (.v (bif t then x.den else y.den)))
      | _, _ => False)
    | _ => False)
  | .nilCheck x => bif notNil (e x) then K (e x) else False
  | .binOp op t x y _ => xBin P op t (e x) (e y) K
  | .unOp op _ x => xUn op (e x) K
  | .convert src dst x => xConvP P src dst (e x) K
  | .makeInterface t x => xIface P t (e x) K
  | .makeFunc fn first captured => (match first.toList with
    | [] => K (.fn fn (evRow e captured.toList))
    | _ => False)
  | .slice t x lo hi mx => xSlice P t (e x) (evOpt e lo) (evOpt e hi) (evOpt e mx) K
  | .fieldAddr t x f => xFieldAddr P t (e x) f K
  | .field t x f => xField P t (e x) f K
  | .indexAddr t x i => xIndexAddr P t (e x) (e i) K
  | .index t x i => xIndex P t (e x) (e i) K
  | .extract t i => xExtract (e t) i K
  | .build t parts => xBuild P zt t (evParts e parts.toList) K
  | .call c => (match c.callee, c.argTypes.toList, c.args.toList with
    | .builtin .cap, [t], [x] => xCap P t (e x) K
    | .builtin .len, [t], [x] => xLenP P t (e x) K
    | .builtin .min, _, [x, y] => xMinMax true (e x) (e y) K
    | .builtin .max, _, [x, y] => xMinMax false (e x) (e y) K
    | _, _, _ => False)
  | _ => False

theorem run_value {s : Sem Value} {v : Value} {w' : World} (h : s.run P w = .ok v w') : (do pure (Next.value (← s)) : Sem Next).run P w = .ok (.value v) w' := by
  simp [h]

theorem toList_one {α : Type} {a : Array α} {x : α} (h : a.toList = [x]) : a = #[x] := by
  apply Array.ext'; rw [h]
theorem toList_two {α : Type} {a : Array α} {x y : α} (h : a.toList = [x, y]) : a = #[x, y] := by
  apply Array.ext'; rw [h]
theorem toList_nil {α : Type} {a : Array α} (h : a.toList = []) : a = #[] := by
  apply Array.ext'; rw [h]

theorem run_builtin {o : Oper} {c : Call} (ho : o.op = .call c) {b : Builtin} (hc : c.callee = .builtin b) :
    execOp ρ o = builtin b c.argTypes o.type (c.args.map fun | .const _ => true | _ => false) (c.args.map ρ) := by
  unfold execOp
  rw [ho]
  simp only [resolve, hc, invoke]
  rfl

theorem xPure_sound (hz : ZOk P zt) {o : Oper} (he : EvOk β ρ e) {K : SV → Prop} (h : xPure P zt o.op e K) :
    ∃ sv, K sv ∧ sv.one = true ∧ sv.wf β.length ∧ ∀ w, (execOp ρ o).run P w = .ok (.value (sv.val β)) w := by
  have lift : ∀ (s : Sem Value), execOp ρ o = (do pure (Next.value (← s))) → (∃ sv, K sv ∧ sv.one = true ∧ sv.wf β.length ∧ ∀ w, s.run P w = .ok (sv.val β) w) →
      ∃ sv, K sv ∧ sv.one = true ∧ sv.wf β.length ∧ ∀ w, (execOp ρ o).run P w = .ok (.value (sv.val β)) w := by
    intro s hs ⟨sv, h1, h2, h3, h4⟩
    exact ⟨sv, h1, h2, h3, fun w => by rw [hs]; exact run_value (h4 w)⟩
  unfold xPure at h
  split at h
  · rename_i x ho
    exact ⟨_, h, (he x).1, (he x).2.1, fun w => by simp only [execOp, ho, (he x).2.2]; rfl⟩
  · rename_i x ho
    exact ⟨_, h, (he x).1, (he x).2.1, fun w => by simp only [execOp, ho, (he x).2.2]; rfl⟩
  · rename_i c a b ho
    have hc := (he c).2.2
    split at h
    · rename_i t hct
      rw [hct] at hc
      cases t
      · exact ⟨_, h, (he b).1, (he b).2.1, fun w => by simp [execOp, ho, hc, val_bool, BE.den, asBool, (he b).2.2]⟩
      · exact ⟨_, h, (he a).1, (he a).2.1, fun w => by simp [execOp, ho, hc, val_bool, BE.den, asBool, (he a).2.2]⟩
    · rename_i t hct
      rw [hct] at hc
      split at h
      · rename_i x y hx hy
        have ha := (he a).2.2
        have hb := (he b).2.2
        rw [hx] at ha
        rw [hy] at hb
        refine ⟨_, h, rfl, trivial, fun w => ?_⟩
        cases t <;> simp [execOp, ho, hc, val_bool, BE.den, asBool, ha, hb]
      · exact h.elim
    · exact h.elim
  · rename_i x ho
    cases hn : notNil (e x) <;> rw [hn] at h
    · exact h.elim
    · refine ⟨_, h, (he x).1, (he x).2.1, fun w => ?_⟩
      have hx := (he x).2.2
      simp only [execOp, ho, hx]
      cases hex : e x <;> rw [hex] at hn <;> first | rfl | cases hn
  · rename_i op t x y yt ho
    obtain ⟨sv, h1, h2, h3, h4⟩ := xBin_sound (β := β) h
    refine lift _ ?_ ⟨sv, h1, h2, h3, fun w => h4 x y w⟩
    simp only [execOp, ho, (he x).2.2, (he y).2.2]
  · rename_i op t x ho
    exact lift _ (by simp only [execOp, ho, (he x).2.2]) (xUn_sound h)
  · rename_i src dst x ho
    exact lift _ (by simp only [execOp, ho, (he x).2.2]) (xConvP_sound h)
  · rename_i t x ho
    exact lift _ (by simp only [execOp, ho, (he x).2.2]) (xIface_sound (he x).1 (he x).2.1 h)
  · rename_i fn first captured ho
    split at h
    · rename_i hf
      obtain ⟨g1, g2⟩ := evRow_ok he captured.toList
      refine ⟨_, h, rfl, g1, fun w => ?_⟩
      have := toList_nil hf
      subst this
      simp only [execOp, ho, Instr.makeFunc, SV.val, SV.vals, g2, List.headD_cons]
      simp
      apply Array.ext'
      simp
    · exact h.elim
  · rename_i t x lo hi mx ho
    refine lift _ ?_ (xSlice_sound (he x).2.1 h)
    simp only [execOp, ho, (he x).2.2, evOpt_ok he]
  · rename_i t x f ho
    exact lift _ (by simp only [execOp, ho, (he x).2.2]) (xFieldAddr_sound (he x).2.1 h)
  · rename_i t x f ho
    exact lift _ (by simp only [execOp, ho, (he x).2.2]) (xField_sound (he x).2.1 h)
  · rename_i t x i ho
    exact lift _ (by simp only [execOp, ho, (he x).2.2, (he i).2.2]) (xIndexAddr_sound (he x).2.1 h)
  · rename_i t x i ho
    exact lift _ (by simp only [execOp, ho, (he x).2.2, (he i).2.2]) (xIndex_sound (he x).2.1 h)
  · rename_i t i ho
    exact lift _ (by simp only [execOp, ho, (he t).2.2]) (xExtract_sound (he t).2.1 h)
  · rename_i t parts ho
    obtain ⟨g1, g2⟩ := evParts_ok he parts.toList
    refine lift _ ?_ (xBuild_sound hz g1 h)
    rw [g2]
    simp only [execOp, ho]
    congr 2
    apply Array.ext'
    simp
  · rename_i c ho
    split at h
    · rename_i t x hc ht hx
      refine lift _ ?_ (xCap_sound (ty := o.type) h)
      rw [run_builtin ho hc, toList_one ht, toList_one hx]
      simp only [builtin, List.map_toArray, List.map_cons, List.map_nil, (he x).2.2]
    · rename_i t x hc ht hx
      refine lift _ ?_ (xLenP_sound (ty := o.type) h)
      rw [run_builtin ho hc, toList_one ht, toList_one hx]
      simp only [builtin, List.map_toArray, List.map_cons, List.map_nil, (he x).2.2]
    · rename_i x y hc hx
      obtain ⟨sv, h1, h2, h3, h4⟩ := xMin_sound (β := β) (P := P) h
      refine lift _ ?_ ⟨sv, h1, h2, h3, fun w => h4 c.argTypes o.type w⟩
      rw [run_builtin ho hc, toList_two hx]
      simp only [builtin, List.map_toArray, List.map_cons, List.map_nil, (he x).2.2, (he y).2.2]
    · rename_i x y hc hx
      obtain ⟨sv, h1, h2, h3, h4⟩ := xMax_sound (β := β) (P := P) h
      refine lift _ ?_ ⟨sv, h1, h2, h3, fun w => h4 c.argTypes o.type w⟩
      rw [run_builtin ho hc, toList_two hx]
      simp only [builtin, List.map_toArray, List.map_cons, List.map_nil, (he x).2.2, (he y).2.2]
    · exact h.elim
  · exact h.elim

/-- Operations that read, and leave the world as it is. -/
def xRead (P : Program) (zt : List (TypeId × SV)) (o : Op) (e : Operand → SV) (hp : Hp) (K : SV → Prop) : Prop :=
  match o with
  | .load t a => xLoad P t (e a) hp K
  | .lookup t x i ok => xLookup P zt t (e x) (e i) ok hp K
  | .convert src dst x => xConvB P src dst (e x) hp K
  | .call c => (match c.callee, c.argTypes.toList, c.args.toList with
    | .builtin .len, [t], [x] => xLen P t (e x) hp K
    | _, _, _ => False)
  | _ => False
theorem xRead_sound (hz : ZOk P zt) (hS : Sat F β hp w) {o : Oper} (he : EvOk β ρ e) {K : SV → Prop} (h : xRead P zt o.op e hp K) :
    ∃ sv, K sv ∧ sv.one = true ∧ sv.wf β.length ∧ ∀ w', Sat F β hp w' → (execOp ρ o).run P w' = .ok (.value (sv.val β)) w' := by
  have lift : ∀ (s : Sem Value), execOp ρ o = (do pure (Next.value (← s))) → (∃ sv, K sv ∧ sv.one = true ∧ sv.wf β.length ∧ ∀ w', Sat F β hp w' → s.run P w' = .ok (sv.val β) w') →
      ∃ sv, K sv ∧ sv.one = true ∧ sv.wf β.length ∧ ∀ w', Sat F β hp w' → (execOp ρ o).run P w' = .ok (.value (sv.val β)) w' := by
    intro s hs ⟨sv, h1, h2, h3, h4⟩
    exact ⟨sv, h1, h2, h3, fun w' hS' => by rw [hs]; exact run_value (h4 w' hS')⟩
  unfold xRead at h
  split at h
  · rename_i t a ho
    exact lift _ (by simp only [execOp, ho, (he a).2.2]) (xLoad_sound hS h)
  · rename_i t x i ok ho
    exact lift _ (by simp only [execOp, ho, (he x).2.2, (he i).2.2]) (xLookup_sound hz hS h)
  · rename_i src dst x ho
    exact lift _ (by simp only [execOp, ho, (he x).2.2]) (xConvB_sound hS h)
  · rename_i c ho
    split at h
    · rename_i t x hc ht hx
      refine lift _ ?_ (xLen_sound (ty := o.type) h)
      rw [run_builtin ho hc, toList_one ht, toList_one hx]
      simp only [builtin, List.map_toArray, List.map_cons, List.map_nil, (he x).2.2]
    · exact h.elim
  · exact h.elim

/-- Is an operation one that only computes; one that only reads? -/
inductive OpKind where
  | pure
  | read
  | act
  | call
def kindOf (P : Program) (o : Op) : OpKind :=
  match o with
  | .load .. | .lookup .. => .read
  | .convert src dst _ => (match P.underlying src, P.underlying dst with
    | some (.slice _), _ => .read
    | some .string, some (.slice _) => .act
    | _, _ => .pure)
  | .alloc .. | .box .. | .buildSlice .. | .store .. | .makeMap .. | .makeSlice .. | .mapUpdate .. | .insert .. | .range .. | .next .. => .act
  | .call c => (match c.callee with
    | .builtin .len => (match c.argTypes.toList with
      | [t] => (match P.underlying t with
        | some (.map _ _) => .read
        | _ => .pure)
      | _ => .read)
    | .builtin .cap | .builtin .min | .builtin .max => .pure
    | .builtin _ => .act
    | _ => .call)
  | _ => .pure

/-- Operations that act on memory: what they leave, and the heap then. -/
def xAct (P : Program) (zt : List (TypeId × SV)) (o : Op) (e : Operand → SV) (hp : Hp) (K : SV → Hp → Prop) : Prop :=
  match o with
  | .alloc t => xAlloc P zt t hp K
  | .box t x => xBox t (e x) hp K
  | .buildSlice t n parts => xBuildSlice P zt t n (evParts e parts.toList) hp K
  | .store t a x => xStore P t (e a) (e x) hp fun hp' => K (.opq undef) hp'
  | .makeMap t r => xMakeMap P t (evOpt e r) hp K
  | .makeSlice t l c => xMakeSlice P zt t (e l) (e c) hp K
  | .mapUpdate t m k x | .insert t m k x => xMapUpdate P t (e m) (e k) (e x) hp fun hp' => K (.opq undef) hp'
  | .convert src dst x => xBytes P src dst (e x) hp K
  | .call c => (match c.callee, c.argTypes.toList, c.args.toList with
    | .builtin .append, [t, tx], [s, x] => xAppend P zt t tx (e s) (e x) hp K
    | .builtin .copy, [t, tx], [d, x] => xCopy P t tx (e d) (e x) hp K
    | _, _, _ => False)
  | _ => False

/-- What an operation leaves. -/
def OpRuns (P : Program) (F : Fr) (β : List Nat) (w : World) (s : Sem Next) (K : SV → Hp → Prop) : Prop :=
  ∃ n v w', s.run P w = .ok n w' ∧ (n = .value v ∨ (n = .skip ∧ v = undef)) ∧ Yld F β K v w'

theorem xAct_sound (hz : ZOk P zt) (hS : Sat F β hp w) {o : Oper} (he : EvOk β ρ e) {K : SV → Hp → Prop} (h : xAct P zt o.op e hp K) : OpRuns P F β w (execOp ρ o) K := by
  have lift : ∀ (s : Sem Value), execOp ρ o = (do pure (Next.value (← s))) → Runs P F β w s K → OpRuns P F β w (execOp ρ o) K := by
    intro s hs ⟨v, w', h1, h2⟩
    exact ⟨_, v, w', by rw [hs]; exact run_value h1, .inl rfl, h2⟩
  have liftU : ∀ (s : Sem Unit), execOp ρ o = (do s; pure Next.skip) → (∃ hp' w', s.run P w = .ok () w' ∧ Sat F β hp' w' ∧ K (.opq undef) hp') → OpRuns P F β w (execOp ρ o) K := by
    intro s hs ⟨hp', w', h1, h2, h3⟩
    refine ⟨.skip, undef, w', by rw [hs]; simp [h1], .inr ⟨rfl, rfl⟩, yld_same (sv := .opq undef) h2 rfl trivial rfl h3⟩
  unfold xAct at h
  split at h
  · rename_i t ho
    exact lift _ (by simp only [execOp, ho]) (xAlloc_sound hz hS h)
  · rename_i t x ho
    exact lift _ (by simp only [execOp, ho, (he x).2.2]) (xBox_sound hS (he x).1 (he x).2.1 h)
  · rename_i t n parts ho
    obtain ⟨g1, g2⟩ := evParts_ok he parts.toList
    refine lift _ ?_ (xBuildSlice_sound hz hS g1 h)
    rw [g2]
    simp only [execOp, ho]
    congr 2
    apply Array.ext'
    simp
  · rename_i t a x ho
    exact liftU _ (by simp only [execOp, ho, (he a).2.2, (he x).2.2]) (xStore_sound hS (he x).2.1 h)
  · rename_i t r ho
    exact lift _ (by simp only [execOp, ho, evOpt_ok he]) (xMakeMap_sound hS h)
  · rename_i t l c ho
    exact lift _ (by simp only [execOp, ho, (he l).2.2, (he c).2.2]) (xMakeSlice_sound hz hS h)
  · rename_i t m k x ho
    exact liftU _ (by simp only [execOp, ho, (he m).2.2, (he k).2.2, (he x).2.2]) (xMapUpdate_sound hS (he k).2.1 (he x).2.1 h)
  · rename_i t m k x ho
    exact liftU _ (by simp only [execOp, ho, (he m).2.2, (he k).2.2, (he x).2.2]) (xMapUpdate_sound hS (he k).2.1 (he x).2.1 h)
  · rename_i src dst x ho
    exact lift _ (by simp only [execOp, ho, (he x).2.2]) (xBytes_sound hS h)
  · rename_i c ho
    split at h
    · rename_i t tx s x hc ht hx
      refine lift _ ?_ (xAppend_sound (ty := o.type) hz hS (he s).2.1 h)
      rw [run_builtin ho hc, toList_two ht, toList_two hx]
      simp only [builtin, List.map_toArray, List.map_cons, List.map_nil, (he s).2.2, (he x).2.2]
    · rename_i t tx d x hc ht hx
      refine lift _ ?_ (xCopy_sound (ty := o.type) hS h)
      rw [run_builtin ho hc, toList_two ht, toList_two hx]
      simp only [builtin, List.map_toArray, List.map_cons, List.map_nil, (he d).2.2, (he x).2.2]
    · exact h.elim
  · exact h.elim
end
end Vx
