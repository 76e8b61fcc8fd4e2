/- What this text proves, part by part: One operation of a region, on symbolic values. Regions: in the order of the text, and in whatever order is drawn. Operations that leave all memory as it was: whatever their operands are. Regions in whatever order: what only computes first, then what is loaded, then all orders of the rest. Code, loops, functions. Other names for blocks; what a part of the code does not touch. No condition is added. -/
import Derived.Deep.Quiet
import Derived.StillTail
import Derived.Test.YtafngdeeachggaaGreatParses01
import Derived.Test.YtafngdeeachggaaGreatParses02
set_option linter.unusedVariables false
set_option linter.unusedSimpArgs false
section
/- One operation of a region, on symbolic values. -/
namespace Vx
open Go

/-- The temporaries: how many there are; what was put into them (the first row of a number counts); what the others hold. -/
structure Tm where
  n : Nat
  l : List (Nat × SV)
  d : Nat → Value
def look (d : Nat → Value) (t : Nat) : List (Nat × SV) → SV
  | [] => .opq (d t)
  | (j, x) :: r => bif Nat.beq j t then x else look d t r
def nth (T : Tm) (t : Nat) : SV := bif Nat.blt t T.n then look T.d t T.l else .opq undef
def setT (T : Tm) (t : Nat) (x : SV) : Tm := ⟨T.n, (t, x) :: T.l, T.d⟩

structure TOk (β : List Nat) (T : Tm) (a : Act) : Prop where
  size : a.tmps.size = T.n
  tmps : ∀ t, t < T.n → a.tmps[t]? = some ((look T.d t T.l).val β)
  ok : ∀ t, (look T.d t T.l).one = true ∧ (look T.d t T.l).wf β.length
  defers : a.defers = []

def ev (T : Tm) : Operand → SV
  | .tmp t => nth T t
  | .const v => openV v
  | .global g => .gptr g 0
  | .func f => .opq (.func (.func f) #[] #[])
/-- What operands are. -/
def EvOk (β : List Nat) (ρ : Operand → Value) (e : Operand → SV) : Prop := ∀ x, (e x).one = true ∧ (e x).wf β.length ∧ ρ x = (e x).val β

theorem undef_opq (β : List Nat) : (SV.opq undef).val β = undef := rfl
theorem blt_of {a b : Nat} (h : a < b) : Nat.blt a b = true := Nat.ble_eq_true_of_le h
theorem blt_not {a b : Nat} (h : b ≤ a) : Nat.blt a b = false := by
  cases hb : Nat.blt a b
  · rfl
  · exact absurd (blt_t hb) (by omega)
theorem TOk.ev {β : List Nat} {T : Tm} {a : Act} (h : TOk β T a) : EvOk β a.eval (Vx.ev T) := by
  intro x
  cases x with
  | tmp t =>
    simp only [Vx.ev, nth, Act.eval]
    rcases Nat.lt_or_ge t T.n with ht | ht
    · rw [blt_of ht]
      refine ⟨(h.ok t).1, (h.ok t).2, ?_⟩
      have := h.tmps t ht
      simp [this]
    · rw [blt_not ht]
      refine ⟨rfl, trivial, ?_⟩
      have hs := h.size
      have : a.tmps[t]? = none := Array.getElem?_eq_none (by omega)
      simp [this]; rfl
  | const v => exact ⟨openV_one v, openV_wf _ v, by simp [Vx.ev, Act.eval, SV.val, openV_vals]⟩
  | global g => exact ⟨rfl, trivial, rfl⟩
  | func f => exact ⟨rfl, trivial, rfl⟩

theorem TOk.append {β γ : List Nat} {T : Tm} {a : Act} (h : TOk β T a) : TOk (β ++ γ) T a :=
  ⟨h.size, fun t ht => by rw [h.tmps t ht, SV.val_append β γ _ (h.ok t).2], fun t => ⟨(h.ok t).1, SV.wf_mono (by simp) _ (h.ok t).2⟩, h.defers⟩

def putT (T : Tm) (d : Option Tmp) (x : SV) : Tm :=
  match d with
  | some t => setT T t x
  | none => T
theorem TOk.put {β : List Nat} {T : Tm} {a : Act} (h : TOk β T a) (d : Option Tmp) {x : SV} (h1 : x.one = true) (h2 : x.wf β.length) : TOk β (putT T d x) (a.put d (x.val β)) := by
  cases d with
  | none => exact h
  | some t =>
    refine ⟨?_, ?_, ?_, h.defers⟩
    · simp [putT, setT, Act.put, h.size]
    · intro j hj
      simp only [putT, setT, look, Act.put]
      by_cases hjt : t = j
      · subst hjt
        rw [beq_self]
        have : t < a.tmps.size := by rw [h.size]; exact hj
        simp [this]
      · rw [beq_ne hjt, Array.getElem?_setIfInBounds_ne hjt]
        exact h.tmps j hj
    · intro j
      simp only [putT, setT, look]
      by_cases hjt : t = j
      · subst hjt; rw [beq_self]; exact ⟨h1, h2⟩
      · rw [beq_ne hjt]; exact h.ok j

/-- Operands as a row. -/
def evRow (e : Operand → SV) : List Operand → SV
  | [] => .nil
  | x :: r => .cons (e x) (evRow e r)
def evOpt (e : Operand → SV) : Option Operand → Option SV
  | none => none
  | some x => some (e x)
def evParts (e : Operand → SV) : List (Nat × Operand) → List (Nat × SV)
  | [] => []
  | (i, x) :: r => (i, e x) :: evParts e r

section
variable {P : Program} {F : Fr} {β : List Nat} {hp : Hp} {w : World} {zt : List (TypeId × SV)} {ρ : Operand → Value} {e : Operand → SV}

theorem evRow_ok (he : EvOk β ρ e) : ∀ l : List Operand, (evRow e l).wf β.length ∧ (evRow e l).vals β = l.map ρ
  | [] => ⟨trivial, rfl⟩
  | x :: r => by
    obtain ⟨h1, h2⟩ := evRow_ok he r
    obtain ⟨g1, g2, g3⟩ := he x
    exact ⟨⟨g2, h1⟩, by simp [evRow, SV.vals, SV.vals_one β g1, h2, g3]⟩
theorem evOpt_ok (he : EvOk β ρ e) (x : Option Operand) : (evOpt e x).map (SV.val β) = x.map ρ := by
  cases x with
  | none => rfl
  | some x => simp [evOpt, (he x).2.2]
theorem evParts_ok (he : EvOk β ρ e) : ∀ l : List (Nat × Operand), (∀ p ∈ evParts e l, p.2.one = true ∧ p.2.wf β.length) ∧ ((evParts e l).map fun p => (p.1, p.2.val β)) = l.map fun p => (p.1, ρ p.2)
  | [] => ⟨(fun p hp => by cases hp), rfl⟩
  | (i, x) :: r => by
    obtain ⟨h1, h2⟩ := evParts_ok he r
    obtain ⟨g1, g2, g3⟩ := he x
    refine ⟨(fun p hp => ?_), by simp [evParts, h2, g3]⟩
    rcases List.mem_cons.1 hp with rfl | hp
    · exact ⟨g1, g2⟩
    · exact h1 p hp

/-- Not nil for sure. -/
def notNil : SV → Bool
  | .ptr .. | .gptr .. | .iface .. | .map _ | .slice .. => true
  | _ => false

/-- Operations that only compute. -/
def xPure (P : Program) (zt : List (TypeId × SV)) (o : Op) (e : Operand → SV) (K : SV → Prop) : Prop :=
  match o with
  | .move x | .assign x => K (e x)
  | .pick c a b => (match e c with
    | .bool (.lit t) => K (bif t then e a else e b)
    | .bool (.v t) => (match e a, e b with
      | .bool x, .bool y => K (.bool (.v (bif t then x.den else y.den)))
      | _, _ => False)
    | _ => False)
  | .nilCheck x => bif notNil (e x) then K (e x) else False
  | .binOp op t x y _ => xBin P op t (e x) (e y) K
  | .unOp op _ x => xUn op (e x) K
  | .convert src dst x => xConvP P src dst (e x) K
  | .makeInterface t x => xIface P t (e x) K
  | .makeFunc fn first captured => (match first.toList with
    | [] => K (.fn fn (evRow e captured.toList))
    | _ => False)
  | .slice t x lo hi mx => xSlice P t (e x) (evOpt e lo) (evOpt e hi) (evOpt e mx) K
  | .fieldAddr t x f => xFieldAddr P t (e x) f K
  | .field t x f => xField P t (e x) f K
  | .indexAddr t x i => xIndexAddr P t (e x) (e i) K
  | .index t x i => xIndex P t (e x) (e i) K
  | .extract t i => xExtract (e t) i K
  | .build t parts => xBuild P zt t (evParts e parts.toList) K
  | .call c => (match c.callee, c.argTypes.toList, c.args.toList with
    | .builtin .cap, [t], [x] => xCap P t (e x) K
    | .builtin .len, [t], [x] => xLenP P t (e x) K
    | .builtin .min, _, [x, y] => xMinMax true (e x) (e y) K
    | .builtin .max, _, [x, y] => xMinMax false (e x) (e y) K
    | _, _, _ => False)
  | _ => False

theorem run_value {s : Sem Value} {v : Value} {w' : World} (h : s.run P w = .ok v w') : (do pure (Next.value (← s)) : Sem Next).run P w = .ok (.value v) w' := by
  simp [h]

theorem toList_one {α : Type} {a : Array α} {x : α} (h : a.toList = [x]) : a = #[x] := by
  apply Array.ext'; rw [h]
theorem toList_two {α : Type} {a : Array α} {x y : α} (h : a.toList = [x, y]) : a = #[x, y] := by
  apply Array.ext'; rw [h]
theorem toList_nil {α : Type} {a : Array α} (h : a.toList = []) : a = #[] := by
  apply Array.ext'; rw [h]

theorem run_builtin {o : Oper} {c : Call} (ho : o.op = .call c) {b : Builtin} (hc : c.callee = .builtin b) :
    execOp ρ o = builtin b c.argTypes o.type (c.args.map fun | .const _ => true | _ => false) (c.args.map ρ) := by
  unfold execOp
  rw [ho]
  simp only [resolve, hc, invoke]
  rfl

theorem xPure_sound (hz : ZOk P zt) {o : Oper} (he : EvOk β ρ e) {K : SV → Prop} (h : xPure P zt o.op e K) :
    ∃ sv, K sv ∧ sv.one = true ∧ sv.wf β.length ∧ ∀ w, (execOp ρ o).run P w = .ok (.value (sv.val β)) w := by
  have lift : ∀ (s : Sem Value), execOp ρ o = (do pure (Next.value (← s))) → (∃ sv, K sv ∧ sv.one = true ∧ sv.wf β.length ∧ ∀ w, s.run P w = .ok (sv.val β) w) →
      ∃ sv, K sv ∧ sv.one = true ∧ sv.wf β.length ∧ ∀ w, (execOp ρ o).run P w = .ok (.value (sv.val β)) w := by
    intro s hs ⟨sv, h1, h2, h3, h4⟩
    exact ⟨sv, h1, h2, h3, fun w => by rw [hs]; exact run_value (h4 w)⟩
  unfold xPure at h
  split at h
  · rename_i x ho
    exact ⟨_, h, (he x).1, (he x).2.1, fun w => by simp only [execOp, ho, (he x).2.2]; rfl⟩
  · rename_i x ho
    exact ⟨_, h, (he x).1, (he x).2.1, fun w => by simp only [execOp, ho, (he x).2.2]; rfl⟩
  · rename_i c a b ho
    have hc := (he c).2.2
    split at h
    · rename_i t hct
      rw [hct] at hc
      cases t
      · exact ⟨_, h, (he b).1, (he b).2.1, fun w => by simp [execOp, ho, hc, val_bool, BE.den, asBool, (he b).2.2]⟩
      · exact ⟨_, h, (he a).1, (he a).2.1, fun w => by simp [execOp, ho, hc, val_bool, BE.den, asBool, (he a).2.2]⟩
    · rename_i t hct
      rw [hct] at hc
      split at h
      · rename_i x y hx hy
        have ha := (he a).2.2
        have hb := (he b).2.2
        rw [hx] at ha
        rw [hy] at hb
        refine ⟨_, h, rfl, trivial, fun w => ?_⟩
        cases t <;> simp [execOp, ho, hc, val_bool, BE.den, asBool, ha, hb]
      · exact h.elim
    · exact h.elim
  · rename_i x ho
    cases hn : notNil (e x) <;> rw [hn] at h
    · exact h.elim
    · refine ⟨_, h, (he x).1, (he x).2.1, fun w => ?_⟩
      have hx := (he x).2.2
      simp only [execOp, ho, hx]
      cases hex : e x <;> rw [hex] at hn <;> first | rfl | cases hn
  · rename_i op t x y yt ho
    obtain ⟨sv, h1, h2, h3, h4⟩ := xBin_sound (β := β) h
    refine lift _ ?_ ⟨sv, h1, h2, h3, fun w => h4 x y w⟩
    simp only [execOp, ho, (he x).2.2, (he y).2.2]
  · rename_i op t x ho
    exact lift _ (by simp only [execOp, ho, (he x).2.2]) (xUn_sound h)
  · rename_i src dst x ho
    exact lift _ (by simp only [execOp, ho, (he x).2.2]) (xConvP_sound h)
  · rename_i t x ho
    exact lift _ (by simp only [execOp, ho, (he x).2.2]) (xIface_sound (he x).1 (he x).2.1 h)
  · rename_i fn first captured ho
    split at h
    · rename_i hf
      obtain ⟨g1, g2⟩ := evRow_ok he captured.toList
      refine ⟨_, h, rfl, g1, fun w => ?_⟩
      have := toList_nil hf
      subst this
      simp only [execOp, ho, Instr.makeFunc, SV.val, SV.vals, g2, List.headD_cons]
      simp
      apply Array.ext'
      simp
    · exact h.elim
  · rename_i t x lo hi mx ho
    refine lift _ ?_ (xSlice_sound (he x).2.1 h)
    simp only [execOp, ho, (he x).2.2, evOpt_ok he]
  · rename_i t x f ho
    exact lift _ (by simp only [execOp, ho, (he x).2.2]) (xFieldAddr_sound (he x).2.1 h)
  · rename_i t x f ho
    exact lift _ (by simp only [execOp, ho, (he x).2.2]) (xField_sound (he x).2.1 h)
  · rename_i t x i ho
    exact lift _ (by simp only [execOp, ho, (he x).2.2, (he i).2.2]) (xIndexAddr_sound (he x).2.1 h)
  · rename_i t x i ho
    exact lift _ (by simp only [execOp, ho, (he x).2.2, (he i).2.2]) (xIndex_sound (he x).2.1 h)
  · rename_i t i ho
    exact lift _ (by simp only [execOp, ho, (he t).2.2]) (xExtract_sound (he t).2.1 h)
  · rename_i t parts ho
    obtain ⟨g1, g2⟩ := evParts_ok he parts.toList
    refine lift _ ?_ (xBuild_sound hz g1 h)
    rw [g2]
    simp only [execOp, ho]
    congr 2
    apply Array.ext'
    simp
  · rename_i c ho
    split at h
    · rename_i t x hc ht hx
      refine lift _ ?_ (xCap_sound (ty := o.type) h)
      rw [run_builtin ho hc, toList_one ht, toList_one hx]
      simp only [builtin, List.map_toArray, List.map_cons, List.map_nil, (he x).2.2]
    · rename_i t x hc ht hx
      refine lift _ ?_ (xLenP_sound (ty := o.type) h)
      rw [run_builtin ho hc, toList_one ht, toList_one hx]
      simp only [builtin, List.map_toArray, List.map_cons, List.map_nil, (he x).2.2]
    · rename_i x y hc hx
      obtain ⟨sv, h1, h2, h3, h4⟩ := xMin_sound (β := β) (P := P) h
      refine lift _ ?_ ⟨sv, h1, h2, h3, fun w => h4 c.argTypes o.type w⟩
      rw [run_builtin ho hc, toList_two hx]
      simp only [builtin, List.map_toArray, List.map_cons, List.map_nil, (he x).2.2, (he y).2.2]
    · rename_i x y hc hx
      obtain ⟨sv, h1, h2, h3, h4⟩ := xMax_sound (β := β) (P := P) h
      refine lift _ ?_ ⟨sv, h1, h2, h3, fun w => h4 c.argTypes o.type w⟩
      rw [run_builtin ho hc, toList_two hx]
      simp only [builtin, List.map_toArray, List.map_cons, List.map_nil, (he x).2.2, (he y).2.2]
    · exact h.elim
  · exact h.elim

/-- Operations that read, and leave the world as it is. -/
def xRead (P : Program) (zt : List (TypeId × SV)) (o : Op) (e : Operand → SV) (hp : Hp) (K : SV → Prop) : Prop :=
  match o with
  | .load t a => xLoad P t (e a) hp K
  | .lookup t x i ok => xLookup P zt t (e x) (e i) ok hp K
  | .convert src dst x => xConvB P src dst (e x) hp K
  | .call c => (match c.callee, c.argTypes.toList, c.args.toList with
    | .builtin .len, [t], [x] => xLen P t (e x) hp K
    | _, _, _ => False)
  | _ => False
theorem xRead_sound (hz : ZOk P zt) (hS : Sat F β hp w) {o : Oper} (he : EvOk β ρ e) {K : SV → Prop} (h : xRead P zt o.op e hp K) :
    ∃ sv, K sv ∧ sv.one = true ∧ sv.wf β.length ∧ ∀ w', Sat F β hp w' → (execOp ρ o).run P w' = .ok (.value (sv.val β)) w' := by
  have lift : ∀ (s : Sem Value), execOp ρ o = (do pure (Next.value (← s))) → (∃ sv, K sv ∧ sv.one = true ∧ sv.wf β.length ∧ ∀ w', Sat F β hp w' → s.run P w' = .ok (sv.val β) w') →
      ∃ sv, K sv ∧ sv.one = true ∧ sv.wf β.length ∧ ∀ w', Sat F β hp w' → (execOp ρ o).run P w' = .ok (.value (sv.val β)) w' := by
    intro s hs ⟨sv, h1, h2, h3, h4⟩
    exact ⟨sv, h1, h2, h3, fun w' hS' => by rw [hs]; exact run_value (h4 w' hS')⟩
  unfold xRead at h
  split at h
  · rename_i t a ho
    exact lift _ (by simp only [execOp, ho, (he a).2.2]) (xLoad_sound hS h)
  · rename_i t x i ok ho
    exact lift _ (by simp only [execOp, ho, (he x).2.2, (he i).2.2]) (xLookup_sound hz hS h)
  · rename_i src dst x ho
    exact lift _ (by simp only [execOp, ho, (he x).2.2]) (xConvB_sound hS h)
  · rename_i c ho
    split at h
    · rename_i t x hc ht hx
      refine lift _ ?_ (xLen_sound (ty := o.type) h)
      rw [run_builtin ho hc, toList_one ht, toList_one hx]
      simp only [builtin, List.map_toArray, List.map_cons, List.map_nil, (he x).2.2]
    · exact h.elim
  · exact h.elim

/-- Is an operation one that only computes; one that only reads? -/
inductive OpKind where
  | pure
  | read
  | act
  | call
def kindOf (P : Program) (o : Op) : OpKind :=
  match o with
  | .load .. | .lookup .. => .read
  | .convert src dst _ => (match P.underlying src, P.underlying dst with
    | some (.slice _), _ => .read
    | some .string, some (.slice _) => .act
    | _, _ => .pure)
  | .alloc .. | .box .. | .buildSlice .. | .store .. | .makeMap .. | .makeSlice .. | .mapUpdate .. | .insert .. | .range .. | .next .. => .act
  | .call c => (match c.callee with
    | .builtin .len => (match c.argTypes.toList with
      | [t] => (match P.underlying t with
        | some (.map _ _) => .read
        | _ => .pure)
      | _ => .read)
    | .builtin .cap | .builtin .min | .builtin .max => .pure
    | .builtin _ => .act
    | _ => .call)
  | _ => .pure

/-- Operations that act on memory: what they leave, and the heap then. -/
def xAct (P : Program) (zt : List (TypeId × SV)) (o : Op) (e : Operand → SV) (hp : Hp) (K : SV → Hp → Prop) : Prop :=
  match o with
  | .alloc t => xAlloc P zt t hp K
  | .box t x => xBox t (e x) hp K
  | .buildSlice t n parts => xBuildSlice P zt t n (evParts e parts.toList) hp K
  | .store t a x => xStore P t (e a) (e x) hp fun hp' => K (.opq undef) hp'
  | .makeMap t r => xMakeMap P t (evOpt e r) hp K
  | .makeSlice t l c => xMakeSlice P zt t (e l) (e c) hp K
  | .mapUpdate t m k x | .insert t m k x => xMapUpdate P t (e m) (e k) (e x) hp fun hp' => K (.opq undef) hp'
  | .convert src dst x => xBytes P src dst (e x) hp K
  | .call c => (match c.callee, c.argTypes.toList, c.args.toList with
    | .builtin .append, [t, tx], [s, x] => xAppend P zt t tx (e s) (e x) hp K
    | .builtin .copy, [t, tx], [d, x] => xCopy P t tx (e d) (e x) hp K
    | _, _, _ => False)
  | _ => False

/-- What an operation leaves. -/
def OpRuns (P : Program) (F : Fr) (β : List Nat) (w : World) (s : Sem Next) (K : SV → Hp → Prop) : Prop :=
  ∃ n v w', s.run P w = .ok n w' ∧ (n = .value v ∨ (n = .skip ∧ v = undef)) ∧ Yld F β K v w'

theorem xAct_sound (hz : ZOk P zt) (hS : Sat F β hp w) {o : Oper} (he : EvOk β ρ e) {K : SV → Hp → Prop} (h : xAct P zt o.op e hp K) : OpRuns P F β w (execOp ρ o) K := by
  have lift : ∀ (s : Sem Value), execOp ρ o = (do pure (Next.value (← s))) → Runs P F β w s K → OpRuns P F β w (execOp ρ o) K := by
    intro s hs ⟨v, w', h1, h2⟩
    exact ⟨_, v, w', by rw [hs]; exact run_value h1, .inl rfl, h2⟩
  have liftU : ∀ (s : Sem Unit), execOp ρ o = (do s; pure Next.skip) → (∃ hp' w', s.run P w = .ok () w' ∧ Sat F β hp' w' ∧ K (.opq undef) hp') → OpRuns P F β w (execOp ρ o) K := by
    intro s hs ⟨hp', w', h1, h2, h3⟩
    refine ⟨.skip, undef, w', by rw [hs]; simp [h1], .inr ⟨rfl, rfl⟩, yld_same (sv := .opq undef) h2 rfl trivial rfl h3⟩
  unfold xAct at h
  split at h
  · rename_i t ho
    exact lift _ (by simp only [execOp, ho]) (xAlloc_sound hz hS h)
  · rename_i t x ho
    exact lift _ (by simp only [execOp, ho, (he x).2.2]) (xBox_sound hS (he x).1 (he x).2.1 h)
  · rename_i t n parts ho
    obtain ⟨g1, g2⟩ := evParts_ok he parts.toList
    refine lift _ ?_ (xBuildSlice_sound hz hS g1 h)
    rw [g2]
    simp only [execOp, ho]
    congr 2
    apply Array.ext'
    simp
  · rename_i t a x ho
    exact liftU _ (by simp only [execOp, ho, (he a).2.2, (he x).2.2]) (xStore_sound hS (he x).2.1 h)
  · rename_i t r ho
    exact lift _ (by simp only [execOp, ho, evOpt_ok he]) (xMakeMap_sound hS h)
  · rename_i t l c ho
    exact lift _ (by simp only [execOp, ho, (he l).2.2, (he c).2.2]) (xMakeSlice_sound hz hS h)
  · rename_i t m k x ho
    exact liftU _ (by simp only [execOp, ho, (he m).2.2, (he k).2.2, (he x).2.2]) (xMapUpdate_sound hS (he k).2.1 (he x).2.1 h)
  · rename_i t m k x ho
    exact liftU _ (by simp only [execOp, ho, (he m).2.2, (he k).2.2, (he x).2.2]) (xMapUpdate_sound hS (he k).2.1 (he x).2.1 h)
  · rename_i src dst x ho
    exact lift _ (by simp only [execOp, ho, (he x).2.2]) (xBytes_sound hS h)
  · rename_i c ho
    split at h
    · rename_i t tx s x hc ht hx
      refine lift _ ?_ (xAppend_sound (ty := o.type) hz hS (he s).2.1 h)
      rw [run_builtin ho hc, toList_two ht, toList_two hx]
      simp only [builtin, List.map_toArray, List.map_cons, List.map_nil, (he s).2.2, (he x).2.2]
    · rename_i t tx d x hc ht hx
      refine lift _ ?_ (xCopy_sound (ty := o.type) hS h)
      rw [run_builtin ho hc, toList_two ht, toList_two hx]
      simp only [builtin, List.map_toArray, List.map_cons, List.map_nil, (he d).2.2, (he x).2.2]
    · exact h.elim
  · exact h.elim
end
end Vx
end
section
/- Regions: in the order of the text, and in whatever order is drawn. -/
namespace Vx
open Go

abbrev SpecT := List SV → Hp → (SV → Hp → Prop) → Prop
/-- What a function's symbolic twin says is so. -/
def SpecOk (P : Program) (f : Nat) (s : SpecT) : Prop :=
  ∀ args hp K, s args hp K → (∀ vs w, (callFunc f vs).run P w = .ok (.enter f vs) w) ∧
    ∀ F β w, Sat F β hp w → (∀ x ∈ args, x.one = true ∧ x.wf β.length) → Calls P f (args.map (SV.val β)).toArray w (fun e w' => ∃ v, e = .returned v ∧ Yld F β K v w')
/-- The same of a function that the model answers for at once. -/
def ExtOk (P : Program) (f : Nat) (s : SpecT) : Prop :=
  ∀ args hp K, s args hp K → ∀ F β w, Sat F β hp w → (∀ x ∈ args, x.one = true ∧ x.wf β.length) →
    ∃ v w', (callFunc f (args.map (SV.val β)).toArray).run P w = .ok (.value v) w' ∧ Yld F β K v w'
def CallOk (P : Program) (call : Nat → SpecT) : Prop := ∀ f, SpecOk P f (call f) ∨ ExtOk P f (call f)

/-- A world that holds all that another one held. -/
structure Ext (w w' : World) : Prop where
  outer : w'.tape = w.tape ∧ w'.os = w.os ∧ w'.output = w.output
  heap : ∀ (b : Nat) (o : Obj), w.heap[b]? = some o → w'.heap[b]? = some o
theorem Ext.refl (w : World) : Ext w w := ⟨⟨rfl, rfl, rfl⟩, fun _ _ h => h⟩
theorem Ext.trans {w w' w'' : World} (h : Ext w w') (h' : Ext w' w'') : Ext w w'' :=
  ⟨⟨h'.outer.1.trans h.outer.1, h'.outer.2.1.trans h.outer.2.1, h'.outer.2.2.trans h.outer.2.2⟩, fun b o hb => h'.heap b o (h.heap b o hb)⟩
theorem Sat.extend {F : Fr} {β : List Nat} {hp : Hp} {w w' : World} (h : Sat F β hp w) (he : Ext w w') : Sat F β hp w' :=
  ⟨h.n, ⟨he.outer.1.trans h.outer.1, he.outer.2.1.trans h.outer.2.1, he.outer.2.2.trans h.outer.2.2⟩, fun b o hb => he.heap b o (h.ext b o hb),
    fun id o hm => let ⟨a, b, c, d⟩ := h.own id o hm; ⟨a, b, c, he.heap _ _ d⟩, h.apart, h.ro, h.disj⟩

abbrev QSpecT := List SV → Hp → (SV → Prop) → Prop
/-- A function that leaves all memory as it was: one value, in every world that the heap describes. -/
def QCallOk (P : Program) (call : Nat → QSpecT) : Prop :=
  ∀ f args hp K, call f args hp K → (∀ vs w, (callFunc f vs).run P w = .ok (.enter f vs) w) ∧
    ∀ F β w, Sat F β hp w → (∀ x ∈ args, x.one = true ∧ x.wf β.length) →
      ∃ sv, K sv ∧ sv.one = true ∧ sv.wf β.length ∧ ∀ w', Sat F β hp w' → Calls P f (args.map (SV.val β)).toArray w' (fun e w'' => e = .returned (sv.val β) ∧ Ext w' w'')

/-- The executor's settings. -/
structure Cfg where
  P : Program
  zt : List (TypeId × SV)
  qs : List Nat
  qcall : Nat → QSpecT
structure CfgOk (C : Cfg) : Prop where
  z : ZOk C.P C.zt
  qcall : QCallOk C.P C.qcall
  mixed : C.P.follows .mixedOrders = true

def rowList : SV → Option (List SV)
  | .nil => some []
  | .cons h t => bif h.one then (match rowList t with
    | some l => some (h :: l)
    | none => none) else none
  | _ => none

def evList (e : Operand → SV) : List Operand → List SV
  | [] => []
  | x :: r => e x :: evList e r

/-- A call of a function. -/
def calleeOf (c : Call) (e : Operand → SV) : Option (Nat × List SV) :=
  match c.callee with
  | .value (.func f) => some (f, evList e c.args.toList)
  | .value x => (match e x with
    | .fn (.func f) caps => (match rowList caps with
      | some l => some (f, evList e c.args.toList ++ l)
      | none => none)
    | _ => none)
  | _ => none

section
variable {P : Program} {F : Fr} {β : List Nat} {hp : Hp} {w : World} {zt : List (TypeId × SV)} {ρ : Operand → Value} {e : Operand → SV} {C : Cfg}

theorem rowList_sound : ∀ (x : SV) (l : List SV), x.wf β.length → rowList x = some l → (∀ y ∈ l, y.one = true ∧ y.wf β.length) ∧ x.vals β = l.map (SV.val β) := by
  intro x
  induction x with
  | nil => intro l _ h; cases h; exact ⟨(fun y hy => by cases hy), rfl⟩
  | cons a t _ iht =>
    intro l hw h
    simp only [rowList] at h
    cases h1 : a.one <;> rw [h1] at h
    · cases h
    · simp only [cond_true] at h
      split at h
      · rename_i l' hl'
        cases h
        obtain ⟨g1, g2⟩ := iht l' hw.2 hl'
        refine ⟨fun y hy => ?_, by simp [SV.vals, SV.vals_one β h1, g2]⟩
        rcases List.mem_cons.1 hy with rfl | hy
        · exact ⟨h1, hw.1⟩
        · exact g1 y hy
      · cases h
  | _ => intro l _ h; cases h
theorem evList_ok (he : EvOk β ρ e) : ∀ l : List Operand, (∀ y ∈ evList e l, y.one = true ∧ y.wf β.length) ∧ (evList e l).map (SV.val β) = l.map ρ
  | [] => ⟨(fun y hy => by cases hy), rfl⟩
  | x :: r => by
    obtain ⟨h1, h2⟩ := evList_ok he r
    obtain ⟨g1, g2, g3⟩ := he x
    refine ⟨fun y hy => ?_, by simp [evList, h2, g3]⟩
    rcases List.mem_cons.1 hy with rfl | hy
    · exact ⟨g1, g2⟩
    · exact h1 y hy

theorem calleeOf_sound (he : EvOk β ρ e) (hglob : ∀ f, ρ (.func f) = .func (.func f) #[] #[]) {o : Oper} {c : Call} (ho : o.op = .call c) {f : Nat} {args : List SV} (h : calleeOf c e = some (f, args)) :
    (∀ y ∈ args, y.one = true ∧ y.wf β.length) ∧ execOp ρ o = callFunc f (args.map (SV.val β)).toArray := by
  obtain ⟨g1, g2⟩ := evList_ok he c.args.toList
  have hargs : c.args.map ρ = ((evList e c.args.toList).map (SV.val β)).toArray := by
    rw [g2]; apply Array.ext'; simp
  unfold calleeOf at h
  split at h
  · rename_i f' hc
    cases h
    refine ⟨g1, ?_⟩
    simp only [execOp, ho, resolve, hc, hglob, Deferred.ofValue, hargs]
    simp [invoke]
  · rename_i x hne hc
    split at h
    · rename_i f' caps hx
      split at h
      · rename_i l hl
        cases h
        have hcw := (he x).2.1
        rw [hx] at hcw
        obtain ⟨k1, k2⟩ := rowList_sound caps l hcw hl
        refine ⟨fun y hy => (List.mem_append.1 hy).elim (g1 y) (k1 y), ?_⟩
        have hxv := (he x).2.2
        rw [hx] at hxv
        simp only [execOp, ho, resolve, hc, hxv, SV.val, SV.vals, List.headD_cons, Deferred.ofValue, hargs, k2]
        simp [invoke]
      · cases h
    · cases h
  · cases h

def xOper (C : Cfg) (call : Nat → SpecT) (o : Op) (e : Operand → SV) (hp : Hp) (K : SV → Hp → Prop) : Prop :=
  match kindOf C.P o with
  | .pure => xPure C.P C.zt o e fun v => K v hp
  | .read => xRead C.P C.zt o e hp fun v => K v hp
  | .act => xAct C.P C.zt o e hp K
  | .call => (match o with
    | .call c => (match calleeOf c e with
      | some (f, args) => call f args hp K
      | none => False)
    | _ => False)

theorem xOper_sound (hC : CfgOk C) {call : Nat → SpecT} (hcall : CallOk C.P call) {a : Act} (hS : Sat F β hp w) {o : Oper} (he : EvOk β a.eval e) {K : SV → Hp → Prop} {next : Act → World → Prop} {Q : Exit → Act → World → Prop}
    (h : xOper C call o.op e hp K) (hK : ∀ v w', Yld F β K v w' → next (a.put o.dst v) w') : o.wp C.P a w next Q := by
  unfold xOper at h
  split at h
  · obtain ⟨sv, h1, h2, h3, h4⟩ := xPure_sound hC.z he h
    unfold Oper.wp
    rw [h4 w]
    exact hK _ _ (yld_same hS h2 h3 rfl h1)
  · obtain ⟨sv, h1, h2, h3, h4⟩ := xRead_sound hC.z hS he h
    unfold Oper.wp
    rw [h4 w hS]
    exact hK _ _ (yld_same hS h2 h3 rfl h1)
  · obtain ⟨n, v, w', h1, h2, h3⟩ := xAct_sound hC.z hS he h
    unfold Oper.wp
    rw [h1]
    rcases h2 with rfl | ⟨rfl, rfl⟩
    · exact hK _ _ h3
    · exact hK _ _ h3
  · split at h
    · rename_i c ho
      split at h
      · rename_i f args hca
        obtain ⟨g1, g2⟩ := calleeOf_sound he (fun f => rfl) ho hca
        rcases hcall f with hcf | hcf
        · obtain ⟨k1, k2⟩ := hcf args hp K h
          unfold Oper.wp
          rw [g2, k1]
          refine (k2 F β w hS g1).mono ?_
          rintro en w' ⟨v, rfl, hy⟩
          exact hK v w' hy
        · obtain ⟨v, w', k1, k2⟩ := hcf args hp K h F β w hS g1
          unfold Oper.wp
          rw [g2, k1]
          exact hK v w' k2
      · exact h.elim
    · exact h.elim

/-! ### Guards -/

def dstOf (ops : Array Oper) (j : Nat) : Option Tmp := (ops[j]?).bind (·.dst)
def guardK (ops : Array Oper) (T : Tm) (g : Option (Nat × Bool)) (run skip : Tm → Prop) : Prop :=
  match g with
  | none => run T
  | some (j, want) => match dstOf ops j with
    | none => False
    | some t => match nth T t with
      | .bool (.lit b) => (match b, want with
        | true, true | false, false => run T
        | _, _ => skip T)
      | .bool (.v b) => (b = true → (bif want then run (setT T t (.bool (.lit true))) else skip (setT T t (.bool (.lit true))))) ∧
          (b = false → (bif want then skip (setT T t (.bool (.lit false))) else run (setT T t (.bool (.lit false)))))
      | .opq (.tuple _) => bif Nat.blt t T.n then skip T else False
      | _ => False

theorem nth_lt {T : Tm} {t : Nat} {x : SV} (h : nth T t = x) (hx : x ≠ .opq undef) : t < T.n ∧ look T.d t T.l = x := by
  unfold nth at h
  cases hb : Nat.blt t T.n <;> rw [hb] at h
  · exact absurd h.symm hx
  · exact ⟨blt_t hb, h⟩
theorem TOk.setSame {T : Tm} {a : Act} (h : TOk β T a) {t : Nat} {x y : SV} (hx : look T.d t T.l = x) (hy1 : y.one = true) (hy2 : y.wf β.length) (hv : y.val β = x.val β) : TOk β (setT T t y) a := by
  refine ⟨h.size, ?_, ?_, h.defers⟩
  · intro j hj
    simp only [setT, look]
    by_cases hjt : t = j
    · subst hjt; rw [beq_self]
      have := h.tmps t hj
      rw [this, hx]
      simp [hv]
    · rw [beq_ne hjt]; exact h.tmps j hj
  · intro j
    simp only [setT, look]
    by_cases hjt : t = j
    · subst hjt; rw [beq_self]; exact ⟨hy1, hy2⟩
    · rw [beq_ne hjt]; exact h.ok j

theorem guardK_sound {ops : Array Oper} {T : Tm} {a : Act} (hT : TOk β T a) {o : Oper} {run skip : Tm → Prop} (h : guardK ops T o.guard run skip) :
    ∃ T', TOk β T' a ∧ ((Region.wanted o (yielded ops a.tmps) = true ∧ run T') ∨ (Region.wanted o (yielded ops a.tmps) = false ∧ skip T')) := by
  unfold guardK at h
  split at h
  · rename_i hg
    exact ⟨T, hT, .inl ⟨by simp [Region.wanted, hg], h⟩⟩
  · rename_i j want hg
    split at h
    · exact h.elim
    · rename_i t ht
      have hyld : ∀ b : BE, nth T t = .bool b → yielded ops a.tmps j = some b.den ∧ look T.d t T.l = .bool b := by
        intro b hb
        have h1 := nth_lt hb (by intro h; cases h)
        refine ⟨?_, h1.2⟩
        have h2 : a.tmps[t]? = some (.bool b.den) := by rw [hT.tmps t h1.1, h1.2]; rfl
        unfold dstOf at ht
        simp only [yielded, ht, Option.bind_some, h2]
      split at h
      · rename_i b hb
        obtain ⟨h1, _⟩ := hyld _ hb
        have hw : Region.wanted o (yielded ops a.tmps) = (b == want) := by
          simp only [Region.wanted, hg, h1, BE.den]
          cases b <;> cases want <;> rfl
        refine ⟨T, hT, ?_⟩
        rw [hw]
        cases b <;> cases want <;> first | exact .inl ⟨rfl, h⟩ | exact .inr ⟨rfl, h⟩
      · rename_i b hb
        obtain ⟨h1, h2⟩ := hyld _ hb
        have hw : Region.wanted o (yielded ops a.tmps) = (b == want) := by
          simp only [Region.wanted, hg, h1, BE.den]
          cases b <;> cases want <;> rfl
        rw [hw]
        cases hb' : b
        · have h3 := h.2 hb'
          refine ⟨_, hT.setSame h2 (y := .bool (.lit false)) rfl trivial (by simp [val_bool, BE.den, hb']), ?_⟩
          cases want
          · exact .inl ⟨rfl, h3⟩
          · exact .inr ⟨rfl, h3⟩
        · have h3 := h.1 hb'
          refine ⟨_, hT.setSame h2 (y := .bool (.lit true)) rfl trivial (by simp [val_bool, BE.den, hb']), ?_⟩
          cases want
          · exact .inr ⟨rfl, h3⟩
          · exact .inl ⟨rfl, h3⟩
      · rename_i cs hb
        cases hlt : Nat.blt t T.n <;> rw [hlt] at h
        · exact h.elim
        · refine ⟨T, hT, .inr ⟨?_, h⟩⟩
          unfold nth at hb
          rw [hlt, cond_true] at hb
          have h2 : a.tmps[t]? = some (.tuple cs) := by rw [hT.tmps t (blt_t hlt), hb]; rfl
          unfold dstOf at ht
          simp [Region.wanted, hg, yielded, ht, h2]
      · exact h.elim

/-! ### In the order of the text -/

/-- The frame and the heap, some blocks later. -/
def Post (F : Fr) (β : List Nat) (K : Tm → Hp → Prop) (a : Act) (w : World) : Prop :=
  ∃ γ T hp, TOk (β ++ γ) T a ∧ Sat F (β ++ γ) hp w ∧ K T hp
theorem Post.later {K : Tm → Hp → Prop} {a : Act} {γ : List Nat} (h : Post F (β ++ γ) K a w) : Post F β K a w := by
  obtain ⟨δ, T, hp, h1, h2, h3⟩ := h
  exact ⟨γ ++ δ, T, hp, by rw [← List.append_assoc]; exact h1, by rw [← List.append_assoc]; exact h2, h3⟩
/-- Ends in the usual way alone. -/
def Qn (R : Act → World → Prop) : Exit → Act → World → Prop
  | .normal, a, w => R a w
  | _, _, _ => False

def xOps (C : Cfg) (call : Nat → SpecT) (ops : Array Oper) : List Oper → Tm → Hp → (Tm → Hp → Prop) → Prop
  | [], T, hp, K => K T hp
  | o :: rest, T, hp, K =>
    guardK ops T o.guard
      (fun T => xOper C call o.op (ev T) hp fun v hp' => xOps C call ops rest (putT T o.dst v) hp' K)
      (fun T => xOps C call ops rest (putT T o.dst (.opq undef)) hp K)

theorem xOps_sound (hC : CfgOk C) {call : Nat → SpecT} (hcall : CallOk C.P call) {ops : Array Oper} {R : Act → World → Prop} : ∀ (l : List Oper) (β : List Nat) (T : Tm) (hp : Hp) (a : Act) (w : World) (K : Tm → Hp → Prop),
    TOk β T a → Sat F β hp w → xOps C call ops l T hp K → (∀ a w, Post F β K a w → R a w) → wpList C.P ops (Qn R) l a w := by
  intro l
  induction l with
  | nil =>
    intro β T hp a w K hT hS h hR
    exact hR _ _ ⟨[], T, hp, by simpa using hT, by simpa using hS, h⟩
  | cons o rest ih =>
    intro β T hp a w K hT hS h hR
    simp only [xOps] at h
    obtain ⟨T', hT', hg⟩ := guardK_sound hT h
    simp only [wpList]
    rcases hg with ⟨hw, hr⟩ | ⟨hw, hs⟩
    · rw [if_pos hw]
      refine .inl (xOper_sound hC hcall hS hT'.ev hr fun v w' hy => ?_)
      obtain ⟨γ, sv, hp', k1, k2, k3, rfl, k5⟩ := hy
      exact ih (β ++ γ) _ hp' (a.put o.dst (sv.val (β ++ γ))) w' K ((hT'.append (γ := γ)).put o.dst k2 k3) k1 k5 fun a w h => hR a w h.later
    · rw [if_neg (by rw [hw]; simp)]
      exact ih β _ hp _ w K (hT'.put o.dst (x := .opq undef) rfl trivial) hS hs hR

/-! ### In whatever order: all operations leave the world as it is -/

/-- A call that leaves memory as it was. -/
def isQ (qs : List Nat) (o : Op) : Bool :=
  match o with
  | .call c => (match c.callee with
    | .value (.func f) => qs.any (Nat.beq f)
    | _ => false)
  | _ => false
def xQop (C : Cfg) (o : Op) (e : Operand → SV) (hp : Hp) (K : SV → Prop) : Prop :=
  match kindOf C.P o with
  | .pure => xPure C.P C.zt o e K
  | .read => xRead C.P C.zt o e hp K
  | .act => False
  | .call => (match o with
    | .call c => (match calleeOf c e with
      | some (f, args) => C.qcall f args hp K
      | none => False)
    | _ => False)

theorem xQop_sound (hC : CfgOk C) {a : Act} (hS : Sat F β hp w) {o : Oper} (he : EvOk β a.eval e) {K : SV → Prop} (h : xQop C o.op e hp K) :
    ∃ sv, K sv ∧ sv.one = true ∧ sv.wf β.length ∧ ∀ w', Ext w w' → o.quietAt C.P a (Ext w) w' (sv.val β) := by
  unfold xQop at h
  split at h
  · obtain ⟨sv, h1, h2, h3, h4⟩ := xPure_sound hC.z he h
    refine ⟨sv, h1, h2, h3, fun w' _ => ?_⟩
    unfold Oper.quietAt
    rw [h4 w']
    exact ⟨rfl, rfl⟩
  · obtain ⟨sv, h1, h2, h3, h4⟩ := xRead_sound hC.z hS he h
    refine ⟨sv, h1, h2, h3, fun w' hw' => ?_⟩
    unfold Oper.quietAt
    rw [h4 w' (hS.extend hw')]
    exact ⟨rfl, rfl⟩
  · exact h.elim
  · split at h
    · rename_i c ho
      split at h
      · rename_i f args hca
        obtain ⟨g1, g2⟩ := calleeOf_sound he (fun f => rfl) ho hca
        obtain ⟨k1, k2⟩ := hC.qcall f args hp K h
        obtain ⟨sv, h1, h2, h3, h4⟩ := k2 F β w hS g1
        refine ⟨sv, h1, h2, h3, fun w' hw' => ?_⟩
        unfold Oper.quietAt
        rw [g2, k1]
        exact ⟨rfl, (h4 w' (hS.extend hw')).mono fun en w'' ⟨h5, h6⟩ => ⟨h5, hw'.trans h6⟩⟩
      · exact h.elim
    · exact h.elim

def xQops (C : Cfg) (ops : Array Oper) : List Oper → Tm → Hp → (Tm → Prop) → Prop
  | [], T, _, K => K T
  | o :: rest, T, hp, K =>
    guardK ops T o.guard
      (fun T => xQop C o.op (ev T) hp fun v => xQops C ops rest (putT T o.dst v) hp K)
      (fun T => xQops C ops rest (putT T o.dst (.opq undef)) hp K)

theorem xQops_sound (hC : CfgOk C) {ops : Array Oper} (hS : Sat F β hp w) {R : Act → Prop} : ∀ (l : List Oper) (T : Tm) (a : Act) (K : Tm → Prop),
    TOk β T a → xQops C ops l T hp K → (∀ T a, TOk β T a → K T → R a) → wpQuiet C.P ops (Ext w) R l a := by
  intro l
  induction l with
  | nil => intro T a K hT h hR; exact hR T a hT h
  | cons o rest ih =>
    intro T a K hT h hR
    simp only [xQops] at h
    obtain ⟨T', hT', hg⟩ := guardK_sound hT h
    simp only [wpQuiet]
    rcases hg with ⟨hw, hr⟩ | ⟨hw, hs⟩
    · rw [if_pos hw]
      obtain ⟨sv, h1, h2, h3, h4⟩ := xQop_sound hC hS hT'.ev hr
      exact ⟨sv.val β, h4, ih _ _ K (hT'.put o.dst h2 h3) h1 hR⟩
    · rw [if_neg (by rw [hw]; simp)]
      exact ih _ _ K (hT'.put o.dst (x := .opq undef) rfl trivial) hs hR

/-! ### In whatever order: operations that leave the world as it is, then others one behind the other -/

/-- An operation that only computes or reads. -/
def xSop (C : Cfg) (o : Op) (e : Operand → SV) (hp : Hp) (K : SV → Prop) : Prop :=
  match kindOf C.P o with
  | .pure => xPure C.P C.zt o e K
  | .read => xRead C.P C.zt o e hp K
  | _ => False
def xSops (C : Cfg) (ops : Array Oper) : List Oper → Tm → Hp → (Tm → Prop) → Prop
  | [], T, _, K => K T
  | o :: rest, T, hp, K =>
    guardK ops T o.guard
      (fun T => xSop C o.op (ev T) hp fun v => xSops C ops rest (putT T o.dst v) hp K)
      (fun T => xSops C ops rest (putT T o.dst (.opq undef)) hp K)
theorem xSops_sound (hC : CfgOk C) {ops : Array Oper} (hS : Sat F β hp w) {R : Act → Prop} : ∀ (l : List Oper) (T : Tm) (a : Act) (K : Tm → Prop),
    TOk β T a → xSops C ops l T hp K → (∀ T a, TOk β T a → K T → R a) → wpStill C.P ops w R l a := by
  intro l
  induction l with
  | nil => intro T a K hT h hR; exact hR T a hT h
  | cons o rest ih =>
    intro T a K hT h hR
    simp only [xSops] at h
    obtain ⟨T', hT', hg⟩ := guardK_sound hT h
    simp only [wpStill]
    rcases hg with ⟨hw, hr⟩ | ⟨hw, hs⟩
    · rw [if_pos hw]
      unfold xSop at hr
      split at hr
      · obtain ⟨sv, h1, h2, h3, h4⟩ := xPure_sound hC.z hT'.ev hr
        unfold Oper.still
        rw [h4 w]
        exact ⟨rfl, ih _ _ K (hT'.put o.dst h2 h3) h1 hR⟩
      · obtain ⟨sv, h1, h2, h3, h4⟩ := xRead_sound hC.z hS hT'.ev hr
        unfold Oper.still
        rw [h4 w hS]
        exact ⟨rfl, ih _ _ K (hT'.put o.dst h2 h3) h1 hR⟩
      · exact hr.elim
    · rw [if_neg (by rw [hw]; simp)]
      exact ih _ _ K (hT'.put o.dst (x := .opq undef) rfl trivial) hs hR

end
end Vx
end
section
/- Operations that leave all memory as it was: whatever their operands are. -/
namespace Vx
open Go

def Mild {α : Type} (s : Sem α) : Prop := ∀ (P : Program) (w : World) (a : α) (w' : World), s.run P w = .ok a w' → Ext w w'

section
variable {α β : Type}
theorem mild_pure (a : α) : Mild (Pure.pure a : Sem α) := by
  intro P w b w' h
  simp at h
  obtain ⟨_, rfl⟩ := h
  exact Ext.refl _
theorem mild_bind {s : Sem α} {f : α → Sem β} (hs : Mild s) (hf : ∀ a, Mild (f a)) : Mild (s >>= f) := by
  intro P w b w' h
  simp only [Sem.run_bind] at h
  cases hr : s.run P w with
  | ok a w1 => rw [hr] at h; exact (hs P w a w1 hr).trans (hf a P w1 b w' h)
  | halt x w1 => rw [hr] at h; cases h
theorem mild_halt (x : Halt) : Mild (Sem.halt x : Sem α) := by intro P w b w' h; cases h
theorem mild_stuck (s : String) : Mild (stuck s : Sem α) := mild_halt _
theorem mild_unsupported (u : Unsupported) : Mild (unsupported u : Sem α) := mild_halt _
theorem mild_goPanic (v : Value) : Mild (goPanic v : Sem α) := mild_halt _
theorem mild_load (a : Addr) : Mild (load a) := by
  intro P w b w' h
  simp only [run_load] at h
  split at h
  · cases h; exact Ext.refl _
  · split at h
    · cases h; exact Ext.refl _
    · cases h
theorem mild_new (o : Obj) : Mild (newObj o) := by
  intro P w b w' h
  simp only [run_newObj] at h
  cases h
  refine ⟨⟨rfl, rfl, rfl⟩, fun b x hb => ?_⟩
  have hlt := (Array.getElem?_eq_some_iff.1 hb).1
  show (w.heap.push o)[b]? = some x
  rw [Array.getElem?_push_lt hlt, ← hb]
  exact (Array.getElem?_eq_getElem hlt).symm
theorem mild_program : Mild program := by intro P w b w' h; cases h; exact Ext.refl _
theorem mild_shape (r : Nat) : Mild (shape r) := by intro P w b w' h; cases h; exact Ext.refl _
theorem mild_frozen (a : Addr) : Mild (frozen a) := by intro P w b w' h; cases h; exact Ext.refl _
theorem mild_choose (q : Question) : Mild (choose q) := by
  intro P w b w' h
  simp only [run_choose] at h
  split at h <;> cases h
  · exact Ext.refl _
  · exact ⟨⟨rfl, rfl, rfl⟩, fun _ _ h => h⟩
theorem mild_getObj (r : Nat) : Mild (getObj r) := by
  intro P w b w' h
  simp only [getObj, Sem.run] at h
  split at h <;> cases h
  exact Ext.refl _
theorem mild_ite {c : Prop} [Decidable c] {s t : Sem α} (hs : Mild s) (ht : Mild t) : Mild (if c then s else t) := by
  split
  · exact hs
  · exact ht
theorem mild_askRoom (n : Nat) : Mild (askRoom n) := by
  intro P w b w' h
  simp only [run_askRoom] at h
  cases h; exact Ext.refl _
end

theorem mild_typeInfo (t : TypeId) : Mild (typeInfo t) := by
  unfold typeInfo
  refine mild_bind mild_program fun p => ?_
  split
  · exact mild_pure _
  · exact mild_stuck _
theorem mild_underlying (t : TypeId) : Mild (underlying t) := by
  unfold underlying
  refine mild_bind mild_program fun p => ?_
  split
  · exact mild_pure _
  · exact mild_stuck _
theorem mild_sizeOf (t : TypeId) : Mild (Go.sizeOf t) := by
  unfold Go.sizeOf
  exact mild_bind (mild_typeInfo t) fun _ => mild_pure _
theorem mild_zeroValue (t : TypeId) : Mild (zeroValue t) := by
  unfold zeroValue
  refine mild_bind (mild_typeInfo t) fun i => ?_
  split
  · exact mild_pure _
  · exact mild_unsupported _
theorem mild_isAgg (t : TypeId) : Mild (isAgg t) := by
  unfold isAgg
  refine mild_bind (mild_underlying t) fun d => ?_
  split <;> exact mild_pure _
theorem mild_loadCellsFrom (a : Addr) : ∀ (n i : Nat) (acc : Array Value), Mild (loadCellsFrom a i n acc)
  | 0, i, acc => mild_pure _
  | n + 1, i, acc => mild_bind (mild_load _) fun v => mild_loadCellsFrom a n (i + 1) _
theorem mild_loadCells (a : Addr) (n : Nat) : Mild (loadCells a n) := mild_loadCellsFrom a n 0 _
theorem mild_loadVar (t : TypeId) (a : Addr) : Mild (loadVar t a) := by
  unfold loadVar
  refine mild_bind (mild_isAgg t) fun b => ?_
  split
  · exact mild_bind (mild_sizeOf t) fun n => mild_bind (mild_loadCells a n) fun _ => mild_pure _
  · exact mild_load a
theorem mild_sureAddr (v : Value) : Mild (Instr.sureAddr v) := by
  unfold Instr.sureAddr
  split
  · exact mild_pure _
  · exact mild_stuck _
theorem mild_newRow (t : TypeId) (c : Array Value) : Mild (newRow t c) := by
  unfold newRow
  exact mild_bind (mild_new _) fun _ => mild_pure _

/-- Operations of which it is known, whatever they are given. -/
def mildOp (o : Op) : Bool :=
  match o with
  | .move _ | .assign _ | .pick .. | .load .. | .box .. | .alloc _ | .extract .. => true
  | .call c => (match c.callee, c.argTypes.toList, c.args.toList with
    | .builtin .len, [_], [_] => true
    | _, _, _ => false)
  | _ => false

theorem mild_len (t ty : TypeId) (x : Value) : Mild (Builtin.len_ #[t] ty #[x]) := by
  unfold Builtin.len_
  refine mild_bind (mild_underlying t) fun d => ?_
  split
  · exact mild_pure _
  · exact mild_pure _
  · refine mild_bind (mild_underlying _) fun d => ?_
    split
    · exact mild_pure _
    · exact mild_stuck _
  · exact mild_pure _
  · exact mild_pure _
  · exact mild_pure _
  · refine mild_bind (mild_getObj _) fun d => ?_
    split
    · exact mild_pure _
    · exact mild_stuck _
  · refine mild_bind (mild_getObj _) fun d => ?_
    split
    · exact mild_pure _
    · exact mild_stuck _
  · exact mild_stuck _

theorem mildOp_sound {P : Program} {o : Oper} (h : mildOp o.op = true) (ρ : Operand → Value) {w w' : World} {n : Next} (hr : (execOp ρ o).run P w = .ok n w') : Ext w w' ∧ ∃ v, n = .value v := by
  have val : ∀ s : Sem Value, execOp ρ o = (do pure (Next.value (← s))) → Mild s → Ext w w' ∧ ∃ v, n = .value v := by
    intro s hs hm
    rw [hs] at hr
    simp only [Sem.run_bind] at hr
    cases h1 : s.run P w with
    | ok a w1 =>
      rw [h1] at hr
      simp at hr
      obtain ⟨rfl, rfl⟩ := hr
      exact ⟨hm P w a w1 h1, _, rfl⟩
    | halt x w1 => rw [h1] at hr; cases hr
  unfold mildOp at h
  split at h
  · rename_i x ho
    simp only [execOp, ho] at hr
    cases hr; exact ⟨Ext.refl _, _, rfl⟩
  · rename_i x ho
    simp only [execOp, ho] at hr
    cases hr; exact ⟨Ext.refl _, _, rfl⟩
  · rename_i c a b ho
    refine val (do pure (if ← asBool (ρ c) then ρ a else ρ b)) (by simp only [execOp, ho]; simp) ?_
    refine mild_bind ?_ fun _ => mild_pure _
    unfold asBool
    split
    · exact mild_pure _
    · exact mild_stuck _
  · rename_i t a ho
    exact val (Instr.loadAt t (ρ a)) (by simp only [execOp, ho]) (by unfold Instr.loadAt; exact mild_bind (mild_sureAddr _) fun _ => mild_loadVar _ _)
  · rename_i t x ho
    exact val (Instr.box t (ρ x)) (by simp only [execOp, ho]) (by unfold Instr.box; exact mild_bind (mild_newRow _ _) fun _ => mild_pure _)
  · rename_i t ho
    refine val (Instr.alloc t true (.tuple #[])) (by simp only [execOp, ho]) ?_
    unfold Instr.alloc
    refine mild_bind (mild_zeroValue _) fun z => ?_
    exact mild_bind (mild_newRow _ _) fun _ => mild_pure _
  · rename_i t i ho
    refine val (Instr.extract (ρ t) i) (by simp only [execOp, ho]) ?_
    unfold Instr.extract
    split
    · split
      · exact mild_pure _
      · exact mild_stuck _
    · exact mild_stuck _
  · rename_i c ho
    split at h
    · rename_i t x hc ht hx
      refine val _ ?_ (mild_len t o.type (ρ x))
      rw [run_builtin ho hc, toList_one ht, toList_one hx]
      simp only [builtin, List.map_toArray, List.map_cons, List.map_nil]
    · cases h
  · cases h
end Vx
end
section
/- Regions in whatever order: what only computes first, then what is loaded, then all orders of the rest. -/
namespace Vx
open Go

section
variable {P : Program} {ops : Array Oper} {Q : Exit → Act → World → Prop}

/-- Does an operation wait for another one's end? -/
def waitsFor (ops : Array Oper) (j i : Nat) : Bool :=
  match ops[j]? with
  | some o => o.after.any fun e => Region.binds .any e && Nat.beq e.on i
  | none => false
abbrev Watch := Nat × (World → Prop)
def holdW (W : List Watch) (w : World) : Prop := ∀ x ∈ W, x.2 w
def alive (ops : Array Oper) (j : Nat) (W : List Watch) : List Watch := W.filter fun x => !waitsFor ops j x.1

/-- All orders; and what is watched holds behind each operation that need not wait. -/
def wpC (P : Program) (ops : Array Oper) (Q : Exit → Act → World → Prop) : Nat → List Watch → Array Bool → Act → World → Prop
  | 0, _, listed, a, w => Region.ready .any ops listed = [] ∧ Q .normal a w
  | fuel + 1, W, listed, a, w =>
    (Region.ready .any ops listed = [] → Q .normal a w) ∧
    ∀ j ∈ Region.ready .any ops listed, wpOp P ops Q j (fun a' w' => holdW (alive ops j W) w' ∧ wpC P ops Q fuel (alive ops j W) (listed.setIfInBounds j true) a' w') a w

theorem alive_sub {j : Nat} {W W' : List Watch} (h : W' ⊆ W) : alive ops j W' ⊆ alive ops j W := by
  intro x hx
  simp only [alive, List.mem_filter] at hx ⊢
  exact ⟨h hx.1, hx.2⟩
theorem holdW_sub {W W' : List Watch} (h : W' ⊆ W) {w : World} (hw : holdW W w) : holdW W' w := fun x hx => hw x (h hx)
theorem wpC_sub : ∀ (fuel : Nat) {W W' : List Watch} {listed : Array Bool} {a : Act} {w : World}, (∀ x ∈ W', x ∈ W ∨ ∀ w, x.2 w) → wpC P ops Q fuel W listed a w → wpC P ops Q fuel W' listed a w
  | 0, _, _, _, _, _, _, h => h
  | fuel + 1, W, W', _, _, _, hs, h => by
    refine ⟨h.1, fun j hj => wpOp_mono (fun _ _ h' => ?_) (h.2 j hj)⟩
    have hs' : ∀ x ∈ alive ops j W', x ∈ alive ops j W ∨ ∀ w, x.2 w := fun x hx => by
      simp only [alive, List.mem_filter] at hx ⊢
      exact (hs x hx.1).imp (fun h => ⟨h, hx.2⟩) id
    exact ⟨fun x hx => (hs' x hx).elim (h'.1 x) fun h => h _, wpC_sub fuel hs' h'.2⟩
theorem wpC_any : ∀ (fuel : Nat) {W : List Watch} {listed : Array Bool} {a : Act} {w : World}, wpC P ops Q fuel W listed a w → wpAny P .any ops Q fuel listed a w
  | 0, _, _, _, _, h => h
  | fuel + 1, _, _, _, _, h => ⟨h.1, fun j hj => wpOp_mono (fun _ _ h' => wpC_any fuel h'.2) (h.2 j hj)⟩

/-- An operation comes to a value wherever something holds, and leaves all as it was. -/
def YI (P : Program) (ops : Array Oper) (o : Oper) (v : Value) (I : World → Prop) (a : Act) : Prop :=
  (Region.wanted o (yielded ops a.tmps) = true ∧ ∀ w, I w → (execOp a.eval o).run P w = .ok (.value v) w) ∨
  (Region.wanted o (yielded ops a.tmps) = false ∧ v = undef)
theorem YI.same {o : Oper} {v : Value} {I : World → Prop} {a a' : Act} (h : YI P ops o v I a) (he : execOp a'.eval o = execOp a.eval o)
    (hw : Region.wanted o (yielded ops a'.tmps) = Region.wanted o (yielded ops a.tmps)) : YI P ops o v I a' := by
  unfold YI at *; rw [he, hw]; exact h
theorem YI.wpOp {i : Nat} {o : Oper} {v : Value} {I : World → Prop} {a : Act} (hi : ops[i]? = some o) (h : YI P ops o v I a)
    {K : Act → World → Prop} {w : World} (hw : I w) (hK : K (a.put o.dst v) w) : wpOp P ops Q i K a w := by
  unfold Go.wpOp
  simp only [hi]
  rcases h with ⟨h1, h2⟩ | ⟨h1, rfl⟩
  · rw [if_pos h1]
    exact .inl (by unfold Oper.wp; rw [h2 w hw]; exact hK)
  · rw [if_neg (by rw [h1]; simp)]; exact hK

theorem YI.past {j : Nat} {oi oj : Oper} {v : Value} {I : World → Prop} (hj : ops[j]? = some oj) (hap : oi.apart ops oj = true)
    (hsi : ∀ cs b, oi.op ≠ .select cs b) (hsj : ∀ cs b, oj.op ≠ .select cs b)
    (hQ : ∀ c a w, Q (.panic c) (a.put oi.dst v) w → Q (.panic c) a w) {K : Act → World → Prop} {a : Act} {w : World}
    (hy : YI P ops oi v I a) (h : Go.wpOp P ops Q j K (a.put oi.dst v) w) :
    Go.wpOp P ops Q j (fun a' w' => YI P ops oi v I a' ∧ K (a'.put oi.dst v) w') a w := by
  obtain ⟨h1, h2, h3⟩ := Oper.apart_spec hap
  have keep : ∀ u, YI P ops oi v I (a.put oj.dst u) := fun u => hy.same (execOp_put oi hsi a oj.dst u h3) (wanted_put oi a oj.dst u h3)
  have comm : ∀ u, (a.put oi.dst v).put oj.dst u = (a.put oj.dst u).put oi.dst v := fun u => Act.put_comm a v u h2
  unfold Go.wpOp at *
  simp only [hj] at *
  rw [wanted_put oj a oi.dst v h1] at h
  cases hw : Region.wanted oj (yielded ops a.tmps) <;> rw [hw] at h
  · rw [if_neg (by simp)] at h ⊢
    exact ⟨keep undef, by rw [← comm]; exact h⟩
  · rw [if_pos rfl] at h ⊢
    have hx := execOp_put oj hsj a oi.dst v h1
    rcases h with h | ⟨ha, hl⟩
    · refine .inl ?_
      unfold Oper.wp at *
      rw [hx] at h
      cases hr : (execOp a.eval oj).run P w with
      | ok n w' =>
        rw [hr] at h
        cases n with
        | value u => exact ⟨keep u, by rw [← comm]; exact h⟩
        | skip => exact ⟨keep undef, by rw [← comm]; exact h⟩
        | defer d =>
          refine ⟨(hy.same rfl rfl : YI P ops oi v I { a with defers := d :: a.defers }).same (execOp_put oi hsi _ oj.dst undef h3) (wanted_put oi _ oj.dst undef h3), ?_⟩
          show K (({ a with defers := d :: a.defers } : Act).put oj.dst undef |>.put oi.dst v) w'
          rw [← Act.put_comm _ v undef h2, ← Act.put_defers]
          exact h
        | enter f args =>
          refine Calls.mono (h : Calls P f args w' _) fun e w'' he => ?_
          cases e with
          | returned u => exact ⟨keep u, by rw [← comm]; exact he⟩
          | panicked c => exact hQ _ _ _ he
          | outgrown => exact he
        | row row args => exact Rows.mono (h : Rows P row args w' _) fun u w'' he => ⟨keep u, by rw [← comm]; exact he⟩
        | _ => exact h
      | halt x w' =>
        rw [hr] at h
        cases x with
        | panic u => exact hQ _ _ _ h
        | _ => exact h
    · exact .inr ⟨by unfold Oper.asks at *; rw [hx] at ha; exact ha, hl⟩

theorem waitsFor_ready {i j : Nat} {listed : Array Bool} (hi : i ∈ Region.ready .any ops listed) (hj : j ∈ Region.ready .any ops listed) : waitsFor ops j i = false := by
  obtain ⟨_, oj, hoj, hall⟩ := mem_ready.1 hj
  have h0 := (mem_ready.1 hi).1
  cases hw : waitsFor ops j i
  · rfl
  · simp only [waitsFor, hoj] at hw
    obtain ⟨e, he, hb⟩ := Array.any_eq_true'.1 hw
    simp only [Bool.and_eq_true] at hb
    have h1 := hall e he hb.1
    have h2 : e.on = i := Nat.eq_of_beq_eq_true hb.2
    rw [h2] at h1
    rcases Nat.lt_or_ge i listed.size with h' | h'
    · simp [h'] at h0 h1; rw [h0] at h1; cases h1
    · simp [Array.getElem?_eq_none h'] at h1

/-- What may be done first, is. -/
theorem wpC_first {i : Nat} {oi : Oper} {v : Value} {I : World → Prop} (hi : ops[i]? = some oi) (hsel : ∀ (j : Nat) (o : Oper) cs b, ops[j]? = some o → o.op ≠ .select cs b)
    (hQ : ∀ c a w, Q (.panic c) (a.put oi.dst v) w → Q (.panic c) a w) :
    ∀ (fuel : Nat) (W : List Watch) (listed : Array Bool) (a : Act) (w : World),
      (∀ j oj, ops[j]? = some oj → j ≠ i → listed.getD j true = false → (∀ e ∈ oj.after, Region.binds .any e = true → e.on ≠ i) → oi.apart ops oj = true) →
      i ∈ Region.ready .any ops listed → YI P ops oi v I a → I w → holdW (alive ops i W) w →
      wpC P ops Q fuel ((i, I) :: W) (listed.setIfInBounds i true) (a.put oi.dst v) w → wpC P ops Q (fuel + 1) W listed a w := by
  intro fuel
  have take : ∀ (fuel : Nat) (W : List Watch) (listed : Array Bool) (a : Act) (w : World), YI P ops oi v I a → I w → holdW (alive ops i W) w →
      wpC P ops Q fuel ((i, I) :: W) (listed.setIfInBounds i true) (a.put oi.dst v) w →
      Go.wpOp P ops Q i (fun a' w' => holdW (alive ops i W) w' ∧ wpC P ops Q fuel (alive ops i W) (listed.setIfInBounds i true) a' w') a w := by
    intro fuel W listed a w hy hw hW H
    refine hy.wpOp hi hw ⟨hW, wpC_sub fuel (fun x hx => .inl ?_) H⟩
    exact List.mem_cons_of_mem _ (List.mem_filter.1 hx).1
  induction fuel with
  | zero =>
    intro W listed a w _ hr hy hw hW H
    refine ⟨fun h => (by rw [h] at hr; cases hr), fun j hj => ?_⟩
    by_cases hji : j = i
    · subst hji; exact take 0 W listed a w hy hw hW H
    · have := ready_mono hj hji
      rw [H.1] at this
      cases this
  | succ fuel ih =>
    intro W listed a w hfree hr hy hw hW H
    refine ⟨fun h => (by rw [h] at hr; cases hr), fun j hj => ?_⟩
    by_cases hji : j = i
    · subst hji; exact take _ W listed a w hy hw hW H
    · have h1 := H.2 j (ready_mono hj hji)
      obtain ⟨hjun, oj, hoj, hall⟩ := mem_ready.1 hj
      have hwf := waitsFor_ready hr hj
      have hnot : ∀ e ∈ oj.after, Region.binds .any e = true → e.on ≠ i := fun e he hb heq => by
        have : waitsFor ops j i = true := by
          simp only [waitsFor, hoj]
          exact Array.any_eq_true'.2 ⟨e, he, by simp [hb, heq, beq_self]⟩
        rw [hwf] at this; cases this
      have hal : alive ops j ((i, I) :: W) = (i, I) :: alive ops j W := by simp [alive, hwf]
      rw [hal] at h1
      have h2 := YI.past hoj (hfree j oj hoj hji hjun hnot) (fun cs b => hsel i oi cs b hi) (fun cs b => hsel j oj cs b hoj) hQ hy h1
      have hfree' : ∀ k ok, ops[k]? = some ok → k ≠ i → (listed.setIfInBounds j true).getD k true = false →
          (∀ e ∈ ok.after, Region.binds .any e = true → e.on ≠ i) → oi.apart ops ok = true := fun k ok hk hki hun hno => by
        refine hfree k ok hk hki ?_ hno
        by_cases hjk : j = k
        · subst hjk; exact hjun
        · rw [getD_set_ne true hjk] at hun; exact hun
      refine wpOp_mono (fun a' w' h3 => ?_) h2
      obtain ⟨h4, h5, h6⟩ := h3
      refine ⟨fun x hx => h5 x (List.mem_cons_of_mem _ hx), ih (alive ops j W) (listed.setIfInBounds j true) a' w' hfree' (ready_mono hr (Ne.symm hji)) h4 (h5 (i, I) List.mem_cons_self) (fun x hx => h5 x (List.mem_cons_of_mem _ (List.mem_filter.1 hx).1)) ?_⟩
      rw [Array.setIfInBounds_comm _ _ hji]
      exact h6
end

/-! ### On symbolic values -/

def eqI (a b : IE) (K : Prop) : Prop :=
  match a, b with
  | .lit x, .lit y => bif decide (x = y) then K else False
  | a, b => a.den = b.den ∧ K
theorem eqI_sound {a b : IE} {K : Prop} (h : eqI a b K) : a.den = b.den ∧ K := by
  unfold eqI at h
  split at h
  · rename_i x y
    cases hd : decide (x = y) <;> rw [hd] at h
    · exact h.elim
    · exact ⟨of_decide_eq_true hd, h⟩
  · exact h
/-- The same offset, or two that are alike. -/
def eqO (a b : Off) (K : Prop) : Prop :=
  match a, b with
  | .lit x, .lit y => bif Nat.beq x y then K else False
  | a, b => a.den = b.den ∧ K
theorem eqO_sound {a b : Off} {K : Prop} (h : eqO a b K) : a.den = b.den ∧ K := by
  unfold eqO at h
  split at h
  · rename_i x y
    cases hb : Nat.beq x y <;> rw [hb] at h
    · exact h.elim
    · exact ⟨beq_t hb, h⟩
  · exact h
def eqB (a b : BE) (K : Prop) : Prop :=
  match a, b with
  | .lit x, .lit y => bif decide (x = y) then K else False
  | a, b => a.den = b.den ∧ K
theorem eqB_sound {a b : BE} {K : Prop} (h : eqB a b K) : a.den = b.den ∧ K := by
  unfold eqB at h
  split at h
  · rename_i x y
    cases hd : decide (x = y) <;> rw [hd] at h
    · exact h.elim
    · exact ⟨of_decide_eq_true hd, h⟩
  · exact h
def eqM (a b : NE) (K : Prop) : Prop :=
  match a, b with
  | .lit x, .lit y => bif Nat.beq x y then K else False
  | a, b => a.den = b.den ∧ K
theorem eqM_sound {a b : NE} {K : Prop} (h : eqM a b K) : a.den = b.den ∧ K := by
  unfold eqM at h
  split at h
  · rename_i x y
    cases hb : Nat.beq x y <;> rw [hb] at h
    · exact h.elim
    · exact ⟨beq_t hb, h⟩
  · exact h
/-- Two that are alike. -/
def eqV : SV → SV → Prop → Prop
  | .int k a, .int k' b, K => bif decide (k = k') then eqI a b K else False
  | .bool a, .bool b, K => eqB a b K
  | .str a, .str b, K => a.den = b.den ∧ K
  | .nilptr, .nilptr, K => K
  | .ptr i o, .ptr j o', K => bif Nat.beq i j then eqO o o' K else False
  | .nilslice, .nilslice, K => K
  | .slice i o l c, .slice j o' l' c', K => bif Nat.beq i j then eqO o o' (eqM l l' (eqM c c' K)) else False
  | .nilmap, .nilmap, K => K
  | .map i, .map j, K => bif Nat.beq i j then K else False
  | .opq v, .opq v', K => v = v' ∧ K
  | .agg a, .agg b, K => eqV a b K
  | .tup a, .tup b, K => eqV a b K
  | .nil, .nil, K => K
  | .cons a b, .cons c d, K => eqV a c (eqV b d K)
  | .run k n xs, .run k' n' ys, K => bif decide (k = k') then xs.den = ys.den ∧ K else False
  | .blob _ vs, .blob _ vs', K => vs = vs' ∧ K
  | .gsl a l c, .gsl a' l' c', K => a = a' ∧ eqM l l' (eqM c c' K)
  | .gptr b o, .gptr b' o', K => b = b' ∧ o = o' ∧ K
  | _, _, _ => False
theorem NE.i_inj {a b : NE} (h : a.i.den = b.i.den) : a.den = b.den := by
  rw [NE.i_den, NE.i_den] at h; omega
theorem eqV_sound (β : List Nat) : ∀ (a b : SV) (K : Prop), eqV a b K → a.vals β = b.vals β ∧ K := by
  intro a
  induction a with
  | int k x =>
    intro b K h
    cases b <;> try exact h.elim
    simp only [eqV] at h
    rename_i k' y
    cases hd : decide (k = k') <;> rw [hd] at h
    · exact h.elim
    · obtain ⟨h1, h2⟩ := eqI_sound h
      have := of_decide_eq_true hd
      exact ⟨by simp [SV.vals, h1, this], h2⟩
  | bool x =>
    intro b K h
    cases b <;> try exact h.elim
    obtain ⟨h1, h2⟩ := eqB_sound h
    exact ⟨by simp [SV.vals, h1], h2⟩
  | str x =>
    intro b K h
    cases b <;> try exact h.elim
    exact ⟨by simp [SV.vals, h.1], h.2⟩
  | ptr i o =>
    intro b K h
    cases b <;> try exact h.elim
    simp only [eqV] at h
    rename_i j o'
    cases hb : Nat.beq i j <;> rw [hb] at h
    · exact h.elim
    · obtain ⟨h1, h2⟩ := eqO_sound h
      have := beq_t hb
      exact ⟨by simp [SV.vals, h1, this], h2⟩
  | slice i o l c =>
    intro b K h
    cases b <;> try exact h.elim
    simp only [eqV] at h
    rename_i j o' l' c'
    cases hb : Nat.beq i j <;> rw [hb] at h
    · exact h.elim
    · obtain ⟨h1, h2⟩ := eqO_sound h
      obtain ⟨h3, h2⟩ := eqM_sound h2
      obtain ⟨h4, h2⟩ := eqM_sound h2
      have := beq_t hb
      exact ⟨by simp [SV.vals, h1, this, h3, h4], h2⟩
  | map i =>
    intro b K h
    cases b <;> try exact h.elim
    simp only [eqV] at h
    rename_i j
    cases hb : Nat.beq i j <;> rw [hb] at h
    · exact h.elim
    · have := beq_t hb
      exact ⟨by simp [SV.vals, this], h⟩
  | opq v =>
    intro b K h
    cases b <;> try exact h.elim
    exact ⟨by simp [SV.vals, h.1], h.2⟩
  | agg x ih =>
    intro b K h
    cases b <;> try exact h.elim
    obtain ⟨h1, h2⟩ := ih _ _ h
    exact ⟨by simp [SV.vals, h1], h2⟩
  | tup x ih =>
    intro b K h
    cases b <;> try exact h.elim
    obtain ⟨h1, h2⟩ := ih _ _ h
    exact ⟨by simp [SV.vals, h1], h2⟩
  | cons x y ihx ihy =>
    intro b K h
    cases b <;> try exact h.elim
    obtain ⟨h1, h⟩ := ihx _ _ h
    obtain ⟨h2, h⟩ := ihy _ _ h
    exact ⟨by simp [SV.vals, h1, h2], h⟩
  | run k n xs =>
    intro b K h
    cases b <;> try exact h.elim
    simp only [eqV] at h
    rename_i k' n' ys
    cases hd : decide (k = k') <;> rw [hd] at h
    · exact h.elim
    · have := of_decide_eq_true hd
      exact ⟨by simp [SV.vals, h.1, this], h.2⟩
  | blob n vs =>
    intro b K h
    cases b <;> try exact h.elim
    exact ⟨by simp [SV.vals, h.1], h.2⟩
  | gsl x l c =>
    intro b K h
    cases b <;> try exact h.elim
    obtain ⟨h1, h⟩ := h
    obtain ⟨h2, h⟩ := eqM_sound h
    obtain ⟨h3, h⟩ := eqM_sound h
    exact ⟨by simp [SV.vals, h1, h2, h3], h⟩
  | gptr x o =>
    intro b K h
    cases b <;> try exact h.elim
    exact ⟨by simp [SV.vals, h.1, h.2.1], h.2.2⟩
  | nilptr => intro b K h; cases b <;> first | exact ⟨rfl, h⟩ | exact h.elim
  | nilslice => intro b K h; cases b <;> first | exact ⟨rfl, h⟩ | exact h.elim
  | nilmap => intro b K h; cases b <;> first | exact ⟨rfl, h⟩ | exact h.elim
  | nil => intro b K h; cases b <;> first | exact ⟨rfl, h⟩ | exact h.elim
  | _ => intro b K h; cases b <;> exact h.elim

/-- A load that was done early: the operation, its type, its address, what it came to. -/
structure Wt where
  i : Nat
  t : TypeId
  x : SV
  v : SV
def Wt.I (P : Program) (β : List Nat) (y : Wt) : Watch := (y.i, Loads P y.t (y.x.val β) (y.v.val β))
def Wt.wf (n : Nat) (y : Wt) : Prop := y.x.wf n ∧ y.v.wf n
def aliveT (ops : Array Oper) (j : Nat) : List Wt → List Wt
  | [] => []
  | y :: r => bif waitsFor ops j y.i then aliveT ops j r else y :: aliveT ops j r
/-- All that was loaded early is still there. -/
def checkW (P : Program) (hp : Hp) : List Wt → Prop → Prop
  | [], K => K
  | y :: r, K => xLoad P y.t y.x hp fun v => eqV v y.v (checkW P hp r K)

section
variable {C : Cfg} {F : Fr} {β : List Nat} {hp : Hp} {w : World}
theorem aliveT_map (ops : Array Oper) (j : Nat) (P : Program) (β : List Nat) : ∀ W : List Wt, alive ops j (W.map (Wt.I P β)) = (aliveT ops j W).map (Wt.I P β)
  | [] => rfl
  | y :: r => by
    have ih := aliveT_map ops j P β r
    simp only [alive] at ih
    simp only [alive, List.map_cons, aliveT]
    have hi : (Wt.I P β y).1 = y.i := rfl
    rw [List.filter_cons, hi, ih]
    cases waitsFor ops j y.i <;> rfl
theorem aliveT_mem {ops : Array Oper} {j : Nat} {y : Wt} : ∀ {W : List Wt}, y ∈ aliveT ops j W → y ∈ W
  | z :: r, h => by
    simp only [aliveT] at h
    cases hw : waitsFor ops j z.i <;> rw [hw] at h
    · rcases List.mem_cons.1 h with rfl | h
      · exact List.mem_cons_self
      · exact List.mem_cons_of_mem _ (aliveT_mem h)
    · exact List.mem_cons_of_mem _ (aliveT_mem h)
theorem Wt.I_append {y : Wt} (h : y.wf β.length) (P : Program) (γ : List Nat) : y.I P (β ++ γ) = y.I P β := by
  simp [Wt.I, SV.val_append β γ _ h.1, SV.val_append β γ _ h.2]
theorem map_append {W : List Wt} (h : ∀ y ∈ W, y.wf β.length) (P : Program) (γ : List Nat) : W.map (Wt.I P (β ++ γ)) = W.map (Wt.I P β) :=
  List.map_congr_left fun y hy => Wt.I_append (h y hy) P γ
theorem checkW_sound {P : Program} (hS : Sat F β hp w) : ∀ {W : List Wt} {K : Prop}, checkW P hp W K → holdW (W.map (Wt.I P β)) w ∧ K
  | [], K, h => ⟨fun x hx => (by cases hx), h⟩
  | y :: r, K, h => by
    obtain ⟨sv, h1, h2, h3, h4⟩ := xLoad_loads hS h
    obtain ⟨h5, h6⟩ := eqV_sound β _ _ _ h1
    obtain ⟨h7, h8⟩ := checkW_sound hS h6
    refine ⟨fun x hx => ?_, h8⟩
    rcases List.mem_cons.1 hx with rfl | hx
    · have := h4 w hS
      rw [show sv.val β = y.v.val β by simp [SV.val, h5]] at this
      exact this
    · exact h7 x hx
theorem Loads.ext {P : Program} {t : TypeId} {x v : Value} {w w' : World} (h : Loads P t x v w) (he : Ext w w') : Loads P t x v w' := by
  obtain ⟨b, o, vs, h1, h2, h3⟩ := h
  refine ⟨b, o, vs, h1, fun j u hj => ?_, h3⟩
  have := h2 j u hj
  unfold World.cell? at this ⊢
  split at this
  · rename_i cs e fz hb
    rw [he.heap _ _ hb]
    exact this
  · cases this

/-! ### All orders -/

def guardAt (ops : Array Oper) (T : Tm) (g : Option (Nat × Bool)) : Bool :=
  match g with
  | none => true
  | some (j, _) => (match dstOf ops j with
    | some t => (match nth T t with
      | .bool _ => true
      | .opq (.tuple _) => true
      | _ => false)
    | none => false)
/-- What may be done first: what only computes (0), a load (1). -/
def firstAt (P : Program) (ops : Array Oper) (T : Tm) (i : Nat) : Option Bool :=
  match ops[i]? with
  | some o => bif guardAt ops T o.guard then (match o.op with
      | .load .. => some true
      | op => (match kindOf P op with
        | .pure => some false
        | _ => none))
    else none
  | none => none
def firstP (P : Program) (ops : Array Oper) (listed : Array Bool) (T : Tm) (ld : Bool) : List Nat → Option Nat
  | [] => none
  | i :: r => (match firstAt P ops T i with
    | some b => bif Bool.and (bif b then ld else !ld) (Region.free .any ops listed i) then some i else firstP P ops listed T ld r
    | none => firstP P ops listed T ld r)
theorem firstP_sound {P : Program} {ops : Array Oper} {listed : Array Bool} {T : Tm} {ld : Bool} {i : Nat} : ∀ {rs : List Nat}, firstP P ops listed T ld rs = some i → i ∈ rs ∧ Region.free .any ops listed i = true
  | [], h => (by cases h)
  | j :: r, h => by
    simp only [firstP] at h
    split at h
    · rename_i b hb
      cases hc : Bool.and (bif b then ld else !ld) (Region.free .any ops listed j) <;> rw [hc] at h
      · obtain ⟨h1, h2⟩ := firstP_sound h
        exact ⟨List.mem_cons_of_mem _ h1, h2⟩
      · obtain rfl : j = i := Option.some.inj h
        exact ⟨List.mem_cons_self, (Bool.and_eq_true_iff.1 hc).2⟩
    · obtain ⟨h1, h2⟩ := firstP_sound h
      exact ⟨List.mem_cons_of_mem _ h1, h2⟩

/-- Each of some. -/
def eachK : List Nat → (Nat → Prop) → Prop
  | [], _ => True
  | [i], f => f i
  | i :: r, f => f i ∧ eachK r f
theorem eachK_mem {f : Nat → Prop} : ∀ {l : List Nat}, eachK l f → ∀ i ∈ l, f i
  | [i], h, j, hj => by obtain rfl := List.mem_singleton.1 hj; exact h
  | i :: k :: r, h, j, hj => by
    rcases List.mem_cons.1 hj with rfl | hj
    · exact h.1
    · exact eachK_mem h.2 j hj

def xAny (C : Cfg) (call : Nat → SpecT) (ops : Array Oper) : Nat → List Wt → Array Bool → Tm → Hp → (Tm → Hp → Prop) → Prop
  | 0, _, listed, T, hp, K => (match Region.ready .any ops listed with
    | [] => K T hp
    | _ => False)
  | fuel + 1, W, listed, T, hp, K => (match Region.ready .any ops listed with
    | [] => K T hp
    | rs => (match firstP C.P ops listed T false rs with
      | some i => (match ops[i]? with
        | some o => guardK ops T o.guard
          (fun T => xPure C.P C.zt o.op (ev T) fun v => xAny C call ops fuel W (listed.setIfInBounds i true) (putT T o.dst v) hp K)
          (fun T => xAny C call ops fuel W (listed.setIfInBounds i true) (putT T o.dst (.opq undef)) hp K)
        | none => False)
      | none => (match firstP C.P ops listed T true rs with
        | some i => (match ops[i]? with
          | some o => guardK ops T o.guard
            (fun T' => (match o.op with
              | .load t a => xLoad C.P t (ev T' a) hp fun v => xAny C call ops fuel (⟨i, t, ev T' a, v⟩ :: W) (listed.setIfInBounds i true) (putT T' o.dst v) hp K
              | _ => False))
            (fun T => xAny C call ops fuel W (listed.setIfInBounds i true) (putT T o.dst (.opq undef)) hp K)
          | none => False)
        | none => eachK rs fun i => (match ops[i]? with
          | some o => guardK ops T o.guard
            (fun T => xOper C call o.op (ev T) hp fun v hp' =>
              bif mildOp o.op then xAny C call ops fuel (aliveT ops i W) (listed.setIfInBounds i true) (putT T o.dst v) hp' K
              else checkW C.P hp' (aliveT ops i W) (xAny C call ops fuel (aliveT ops i W) (listed.setIfInBounds i true) (putT T o.dst v) hp' K))
            (fun T => xAny C call ops fuel (aliveT ops i W) (listed.setIfInBounds i true) (putT T o.dst (.opq undef)) hp K)
          | none => False))))

theorem wpC_done {ops : Array Oper} {P : Program} {Q : Exit → Act → World → Prop} {W : List Watch} {listed : Array Bool} {a : Act} {w : World} (hr : Region.ready .any ops listed = []) (h : Q .normal a w) :
    ∀ fuel, wpC P ops Q fuel W listed a w
  | 0 => ⟨hr, h⟩
  | _ + 1 => ⟨fun _ => h, by rw [hr]; simp⟩

/-- An operation with what its own world's sequel is. -/
theorem xOper_mild {P : Program} {o : Oper} {a : Act} {w : World} {next : Act → World → Prop} {Q : Exit → Act → World → Prop} (hm : mildOp o.op = true) (h : o.wp P a w next Q) :
    o.wp P a w (fun a' w' => next a' w' ∧ Ext w w') Q := by
  unfold Oper.wp at *
  cases hr : (execOp a.eval o).run P w with
  | ok n w' =>
    obtain ⟨he, v, rfl⟩ := mildOp_sound hm a.eval hr
    rw [hr] at h
    exact ⟨h, he⟩
  | halt x w' => rw [hr] at h; cases x <;> exact h

theorem xAny_sound (hC : CfgOk C) {call : Nat → SpecT} (hcall : CallOk C.P call) {ops : Array Oper} (hsel : Region.noSelect ops = true) {R : Act → World → Prop} : ∀ (fuel : Nat) (W : List Wt) (listed : Array Bool) (β : List Nat) (T : Tm) (hp : Hp) (a : Act) (w : World) (K : Tm → Hp → Prop),
    TOk β T a → Sat F β hp w → (∀ y ∈ W, y.wf β.length) → holdW (W.map (Wt.I C.P β)) w → xAny C call ops fuel W listed T hp K → (∀ a w, Post F β K a w → R a w) → wpC C.P ops (Qn R) fuel (W.map (Wt.I C.P β)) listed a w := by
  intro fuel
  induction fuel with
  | zero =>
    intro W listed β T hp a w K hT hS hW hH h hR
    simp only [xAny] at h
    split at h
    · rename_i hr
      exact wpC_done hr (hR _ _ ⟨[], T, hp, by simpa using hT, by simpa using hS, h⟩) 0
    · exact h.elim
  | succ fuel ih =>
    intro W listed β T hp a w K hT hS hW hH h hR
    simp only [xAny] at h
    split at h
    · rename_i hr
      exact wpC_done hr (hR _ _ ⟨[], T, hp, by simpa using hT, by simpa using hS, h⟩) _
    · rename_i rs hne
      have hal : ∀ i, holdW (alive ops i (W.map (Wt.I C.P β))) w := fun i x hx => hH x (List.mem_filter.1 hx).1
      -- what is done first, and is watched no more
      have first : ∀ (i : Nat) (o : Oper) (v : Value) (T' : Tm), ops[i]? = some o → i ∈ Region.ready .any ops listed → Region.free .any ops listed i = true → YI C.P ops o v (fun _ => True) a →
          TOk β T' (a.put o.dst v) → xAny C call ops fuel W (listed.setIfInBounds i true) T' hp K → wpC C.P ops (Qn R) (fuel + 1) (W.map (Wt.I C.P β)) listed a w := by
        intro i o v T' ho hmem hfree hy hT' hx
        refine wpC_first ho (Region.noSelect_spec hsel) (fun _ _ _ h => h) fuel _ listed a w (Region.free_spec ho hfree) hmem hy trivial (hal i) ?_
        refine wpC_sub fuel (fun x hx => ?_) (ih W _ β T' hp _ w K hT' hS hW hH hx hR)
        rcases List.mem_cons.1 hx with rfl | hx
        · exact .inr fun _ => trivial
        · exact .inl hx
      split at h
      · rename_i i hi
        obtain ⟨hmem, hfree⟩ := firstP_sound hi
        split at h
        · rename_i o ho
          obtain ⟨T', hT', hg⟩ := guardK_sound hT h
          rcases hg with ⟨hw, hr⟩ | ⟨hw, hs⟩
          · obtain ⟨sv, h1, h2, h3, h4⟩ := xPure_sound hC.z hT'.ev hr
            exact first i o _ _ ho hmem hfree (.inl ⟨hw, fun w _ => h4 w⟩) (hT'.put o.dst h2 h3) h1
          · exact first i o _ _ ho hmem hfree (.inr ⟨hw, rfl⟩) (hT'.put o.dst (x := .opq undef) rfl trivial) hs
        · exact h.elim
      · split at h
        · rename_i i hi
          obtain ⟨hmem, hfree⟩ := firstP_sound hi
          split at h
          · rename_i o ho
            obtain ⟨T', hT', hg⟩ := guardK_sound hT h
            rcases hg with ⟨hw, hr⟩ | ⟨hw, hs⟩
            · split at hr
              · rename_i t x hop
                obtain ⟨sv, h1, h2, h3, h4⟩ := xLoad_loads hS hr
                have hx := hT'.ev x
                refine wpC_first (v := sv.val β) (I := Loads C.P t ((ev T' x).val β) (sv.val β)) ho (Region.noSelect_spec hsel) (fun _ _ _ h => h) fuel _ listed a w (Region.free_spec ho hfree) hmem
                  (.inl ⟨hw, fun w' hw' => ?_⟩) (h4 w hS) (hal i) ?_
                · simp only [execOp, hop, hx.2.2]
                  exact run_value hw'.run
                · have := ih (⟨i, t, ev T' x, sv⟩ :: W) (listed.setIfInBounds i true) β _ hp _ w K (hT'.put o.dst h2 h3) hS (fun y hy => ?_) (fun y hy => ?_) h1 hR
                  · exact this
                  · rcases List.mem_cons.1 hy with rfl | hy
                    · exact ⟨hx.2.1, h3⟩
                    · exact hW y hy
                  · rcases List.mem_cons.1 hy with rfl | hy
                    · exact h4 w hS
                    · exact hH y hy
              · exact hr.elim
            · exact first i o _ _ ho hmem hfree (.inr ⟨hw, rfl⟩) (hT'.put o.dst (x := .opq undef) rfl trivial) hs
          · exact h.elim
        · refine ⟨fun h0 => absurd h0 hne, fun i hi => ?_⟩
          have h' := eachK_mem h i hi
          have hWa : ∀ y ∈ aliveT ops i W, y.wf β.length := fun y hy => hW y (aliveT_mem hy)
          rw [aliveT_map]
          have hal' := hal i
          rw [aliveT_map] at hal'
          split at h'
          · rename_i o ho
            obtain ⟨T', hT', hg⟩ := guardK_sound hT h'
            unfold wpOp
            rw [ho]
            simp only
            rcases hg with ⟨hw, hr⟩ | ⟨hw, hs⟩
            · rw [if_pos hw]
              refine .inl ?_
              cases hm : mildOp o.op <;> rw [hm] at hr
              · refine xOper_sound hC hcall hS hT'.ev hr fun v w' hy => ?_
                obtain ⟨γ, sv, hp', k1, k2, k3, rfl, k5⟩ := hy
                have hW' : ∀ y ∈ aliveT ops i W, y.wf (β ++ γ).length := fun y hy => ⟨SV.wf_mono (by simp) _ (hWa y hy).1, SV.wf_mono (by simp) _ (hWa y hy).2⟩
                obtain ⟨c1, c2⟩ := checkW_sound k1 k5
                have := ih (aliveT ops i W) _ (β ++ γ) _ hp' (a.put o.dst (sv.val (β ++ γ))) w' K ((hT'.append (γ := γ)).put o.dst k2 k3) k1 hW' c1 c2 fun a w h => hR a w h.later
                rw [map_append hWa] at c1 this
                exact ⟨c1, this⟩
              · have := xOper_mild (next := fun a' w' => ∃ v, a' = a.put o.dst v ∧ Yld F β (fun sv hp' => xAny C call ops fuel (aliveT ops i W) (listed.setIfInBounds i true) (putT T' o.dst sv) hp' K) v w') (Q := Qn R) hm
                  (xOper_sound hC hcall hS hT'.ev hr fun v w' hy => ⟨v, rfl, hy⟩)
                refine Oper.wp_mono ?_ this
                rintro _ w' ⟨⟨v, rfl, γ, sv, hp', k1, k2, k3, rfl, k5⟩, he⟩
                have hW' : ∀ y ∈ aliveT ops i W, y.wf (β ++ γ).length := fun y hy => ⟨SV.wf_mono (by simp) _ (hWa y hy).1, SV.wf_mono (by simp) _ (hWa y hy).2⟩
                have c1 : holdW ((aliveT ops i W).map (Wt.I C.P β)) w' := fun x hx => by
                  have := hal' x hx
                  obtain ⟨y, _, rfl⟩ := List.mem_map.1 hx
                  exact this.ext he
                have := ih (aliveT ops i W) _ (β ++ γ) _ hp' (a.put o.dst (sv.val (β ++ γ))) w' K ((hT'.append (γ := γ)).put o.dst k2 k3) k1 hW' (by rw [map_append hWa]; exact c1) k5 fun a w h => hR a w h.later
                rw [map_append hWa] at this
                exact ⟨c1, this⟩
            · rw [if_neg (by rw [hw]; simp)]
              exact ⟨hal', ih _ _ β _ hp _ w K (hT'.put o.dst (x := .opq undef) rfl trivial) hS hWa hal' hs hR⟩
          · exact h'.elim

/-! ### A region -/
inductive DrawBy where
  | quiet
  | tail (n : Nat)
  | any
def quietAll (C : Cfg) : List Oper → Bool
  | [] => true
  | o :: r => (match kindOf C.P o.op with
    | .pure | .read => true
    | .act => false
    | .call => isQ C.qs o.op) && quietAll C r
def headN (P : Program) : List Oper → Nat → Nat
  | [], n => n
  | o :: r, n => (match kindOf P o.op with
    | .pure | .read => headN P r (n + 1)
    | _ => n)
def drawBy (C : Cfg) (ops : Array Oper) : DrawBy :=
  bif quietAll C ops.toList && Region.lexB .any ops then .quiet
  else (let n := headN C.P ops.toList 0
    bif Region.lexTailB .any ops n then .tail n else .any)

def xRegion (C : Cfg) (call : Nat → SpecT) (ops : Array Oper) (draw : Bool) (T : Tm) (hp : Hp) (K : Tm → Hp → Prop) : Prop :=
  bif draw then (match drawBy C ops with
    | .quiet => bif Region.lexB .any ops then xQops C ops ops.toList T hp fun T => K T hp else False
    | .tail n => bif Region.lexTailB .any ops n then xSops C ops (ops.toList.take n) T hp fun T => xOps C call ops (ops.toList.drop n) T hp K else False
    | .any => bif Region.noSelect ops then xAny C call ops ops.size [] (Array.replicate ops.size false) T hp K else False)
  else xOps C call ops ops.toList T hp K

theorem xRegion_sound (hC : CfgOk C) {call : Nat → SpecT} (hcall : CallOk C.P call) {id : Nat} {ops : Array Oper} {draw : Bool} {T : Tm} {a : Act} {K : Tm → Hp → Prop} {R : Act → World → Prop} (hT : TOk β T a) (hS : Sat F β hp w)
    (h : xRegion C call ops draw T hp K) (hR : ∀ a w, Post F β K a w → R a w) : (Code.region id ops draw).wp C.P (Qn R) a w := by
  unfold xRegion at h
  have hS' : Sat F β hp { w with drawn := w.drawn + 1 } := hS.drew _
  cases draw
  · refine wp_region ?_
    have := xOps_sound (R := R) hC hcall ops.toList β T hp a w K hT hS h hR
    have heq := wpOps_eq_wpList (P := C.P) (Q := Qn R) (ops := ops) ops.toList 0 (fun j => by simp)
    rw [List.range_eq_range', show ops.size = ops.toList.length from by simp, heq]
    exact this
  · simp only [cond_true] at h
    split at h
    · cases hb : Region.lexB .any ops <;> rw [hb] at h
      · exact h.elim
      · refine wp_region_quiet (C := Ext { w with drawn := w.drawn + 1 }) hC.mixed hb (Ext.refl _) ?_
        exact xQops_sound hC hS' ops.toList T a _ hT h fun T' a' hT' hK w' hw' => hR _ _ ⟨[], T', hp, by simpa using hT', by simpa using hS'.extend hw', hK⟩
    · rename_i n _
      cases hb : Region.lexTailB .any ops n <;> rw [hb] at h
      · exact h.elim
      · have := wp_region_still_tail (P := C.P) (id := id) (Q := Qn R) (a := a) (w := w) (l := ops.toList) n hC.mixed (by simpa using hb) ?_
        · simpa using this
        · have := xSops_sound (ops := ops.toList.toArray) hC hS' (R := fun a' => wpList C.P ops.toList.toArray (Qn R) (ops.toList.drop n) a' { w with drawn := w.drawn + 1 }) (ops.toList.take n) T a _ hT (by simpa using h)
            (fun T' a' hT' hK => xOps_sound hC hcall _ β T' hp a' _ K hT' hS' (by simpa using hK) hR)
          exact this
    · cases hb : Region.noSelect ops <;> rw [hb] at h
      · exact h.elim
      · exact wp_region_any hC.mixed (wpC_any _ (xAny_sound hC hcall hb _ [] _ β T hp a _ K hT hS' (fun y hy => (by cases hy)) (fun x hx => (by cases hx)) h hR))
end
end Vx
end
section
/- Code, loops, functions. -/
namespace Vx
open Go

inductive XE where
  | normal
  | exit (id : Nat)
  | ret
abbrev KT := XE → Tm → Hp → Prop
abbrev BodyT := Tm → Hp → KT → Prop

/-- What is asked of an ending. -/
def QK (F : Fr) (β : List Nat) (K : KT) : Exit → Act → World → Prop
  | .normal, a, w => Post F β (K .normal) a w
  | .exit id, a, w => Post F β (K (.exit id)) a w
  | .ret, a, w => Post F β (K .ret) a w
  | _, _, _ => False

theorem QK.later {F : Fr} {β γ : List Nat} {K : KT} {e : Exit} {a : Act} {w : World} (h : QK F (β ++ γ) K e a w) : QK F β K e a w := by
  cases e <;> first | exact Post.later h | exact h

/-- A code's symbolic twin says what is so. -/
def BodyOk (P : Program) (c : Code) (bx : BodyT) : Prop :=
  ∀ (F : Fr) (β : List Nat) (T : Tm) (hp : Hp) (a : Act) (w : World) (K : KT), TOk β T a → Sat F β hp w → bx T hp K → c.wp P (QK F β K) a w
/-- A way to go round. -/
abbrev LoopT := BodyT → BodyT
def LoopOk (P : Program) (L : LoopT) : Prop := ∀ c bx, BodyOk P c bx → BodyOk P (.loop c) (L bx)

/-- Round and round, at most so often. -/
def iter (bx : BodyT) : Nat → BodyT
  | 0, _, _, _ => False
  | n + 1, T, hp, K => bx T hp fun e T' hp' => (match e with
    | .normal => iter bx n T' hp' K
    | e => K e T' hp')

theorem iter_rounds {P : Program} {c : Code} {bx : BodyT} (hb : BodyOk P c bx) (F : Fr) (K : KT) : ∀ (n : Nat) (β : List Nat) (T : Tm) (hp : Hp) (a : Act) (w : World),
    TOk β T a → Sat F β hp w → iter bx n T hp K → ∀ (Q : Exit → Act → World → Prop), (∀ e a w, QK F β K e a w → Q e a w) → Code.rounds P c Q n a w
  | 0, β, T, hp, a, w, _, _, h, Q, _ => h.elim
  | n + 1, β, T, hp, a, w, hT, hS, h, Q, hQ => by
    show c.wp P (Exit.then (Code.rounds P c Q n) Q) a w
    refine wp_mono (hb F β T hp a w _ hT hS h) fun e a' w' hq => ?_
    cases e with
    | normal =>
      obtain ⟨γ, T', hp', h1, h2, h3⟩ := hq
      exact iter_rounds hb F K n (β ++ γ) T' hp' a' w' h1 h2 h3 Q fun e a w h => hQ e a w h.later
    | exit id =>
      obtain ⟨γ, T', hp', h1, h2, h3⟩ := hq
      exact hQ (.exit id) a' w' ⟨γ, T', hp', h1, h2, h3⟩
    | ret =>
      obtain ⟨γ, T', hp', h1, h2, h3⟩ := hq
      exact hQ .ret a' w' ⟨γ, T', hp', h1, h2, h3⟩
    | goto l => exact hq.elim
    | panic c => exact hq.elim
    | outgrown => exact hq.elim
theorem iter_ok (P : Program) (n : Nat) : LoopOk P fun bx => iter bx n := by
  intro c bx hb F β T hp a w K hT hS h
  exact wp_loop_rounds n (iter_rounds hb F K n β T hp a w hT hS h _ fun _ _ _ h => h)

/-- How the loops of a block are gone round; what is done with a region as a whole. -/
structure Ways where
  loop : Nat → LoopT
  reg : Nat → LoopT := fun _ bx => bx
/-- A way to see a piece of code. -/
def PieceOk (P : Program) (L : LoopT) : Prop := ∀ c bx, BodyOk P c bx → BodyOk P c (L bx)
structure WaysOk (P : Program) (W : Ways) : Prop where
  loop : ∀ b, LoopOk P (W.loop b)
  reg : ∀ i, PieceOk P (W.reg i)
def xCode (C : Cfg) (call : Nat → SpecT) (L : Ways) : Nat → Code → BodyT
  | _, .skip => fun T hp K => K .normal T hp
  | _, .region id ops draw => L.reg id fun T hp K => xRegion C call ops draw T hp (K .normal)
  | b, .seq x y => fun T hp K => xCode C call L b x T hp fun e T' hp' => (match e with
    | .normal => xCode C call L b y T' hp' K
    | e => K e T' hp')
  | b, .cond c x y => fun T hp K => (match ev T c with
    | .bool (.lit t) => bif t then xCode C call L b x T hp K else xCode C call L b y T hp K
    | .bool (.v t) => (t = true → xCode C call L b x T hp K) ∧ (t = false → xCode C call L b y T hp K)
    | _ => False)
  | _, .block id x => fun T hp K => xCode C call L id x T hp fun e T' hp' => (match e with
    | .exit j => bif Nat.beq j id then K .normal T' hp' else K (.exit j) T' hp'
    | e => K e T' hp')
  | b, .loop x => L.loop b (xCode C call L b x)
  | _, .exit id => fun T hp K => K (.exit id) T hp
  | _, .ret => fun T hp K => K .ret T hp
  | _, .label _ => fun T hp K => K .normal T hp
  | _, _ => fun _ _ _ => False

theorem xCode_ok {C : Cfg} (hC : CfgOk C) {call : Nat → SpecT} (hcall : CallOk C.P call) {L : Ways} (hL : WaysOk C.P L) (c : Code) : ∀ b, BodyOk C.P c (xCode C call L b c) := by
  induction c with
  | skip => intro b F β T hp a w K hT hS h; exact wp_skip ⟨[], T, hp, by simpa using hT, by simpa using hS, h⟩
  | label l => intro b F β T hp a w K hT hS h; exact wp_label ⟨[], T, hp, by simpa using hT, by simpa using hS, h⟩
  | exit id => intro b F β T hp a w K hT hS h; exact wp_exit ⟨[], T, hp, by simpa using hT, by simpa using hS, h⟩
  | ret => intro b F β T hp a w K hT hS h; exact wp_ret ⟨[], T, hp, by simpa using hT, by simpa using hS, h⟩
  | region id ops draw =>
    intro b
    refine hL.reg id _ _ ?_
    intro F β T hp a w K hT hS h
    refine wp_mono (xRegion_sound (R := Post F β (K .normal)) hC hcall hT hS h fun _ _ h => h) fun e a w hq => ?_
    cases e <;> first | exact hq | exact hq.elim
  | seq x y ihx ihy =>
    intro b F β T hp a w K hT hS h
    refine wp_seq (wp_mono (ihx b F β T hp a w _ hT hS h) fun e a' w' hq => ?_)
    cases e with
    | normal =>
      obtain ⟨γ, T', hp', h1, h2, h3⟩ := hq
      exact wp_mono (ihy b F (β ++ γ) T' hp' a' w' K h1 h2 h3) fun _ _ _ h => h.later
    | exit id => exact hq
    | ret => exact hq
    | goto l => exact hq.elim
    | panic c => exact hq.elim
    | outgrown => exact hq.elim
  | cond c x y ihx ihy =>
    intro b F β T hp a w K hT hS h
    have hc := (hT.ev c).2.2
    simp only [xCode] at h
    split at h
    · rename_i t ht
      rw [ht] at hc
      refine wp_cond (t := t) hc ?_
      cases t
      · exact ihy b F β T hp a w K hT hS h
      · exact ihx b F β T hp a w K hT hS h
    · rename_i t ht
      rw [ht] at hc
      refine wp_cond (t := t) hc ?_
      cases t
      · exact ihy b F β T hp a w K hT hS (h.2 rfl)
      · exact ihx b F β T hp a w K hT hS (h.1 rfl)
    · exact h.elim
  | block id x ih =>
    intro b F β T hp a w K hT hS h
    refine wp_block (wp_mono (ih id F β T hp a w _ hT hS h) fun e a' w' hq => ?_)
    cases e with
    | normal => exact hq
    | exit j =>
      obtain ⟨γ, T', hp', h1, h2, h3⟩ := hq
      simp only at h3
      simp only [Exit.inBlock]
      cases hb : Nat.beq j id <;> rw [hb] at h3
      · rw [if_neg (beq_f hb)]
        exact ⟨γ, T', hp', h1, h2, h3⟩
      · rw [if_pos (beq_t hb)]
        exact ⟨γ, T', hp', h1, h2, h3⟩
    | ret => exact hq
    | goto l => exact hq.elim
    | panic c => exact hq.elim
    | outgrown => exact hq.elim
  | loop x ih => exact fun b => hL.loop b x _ (ih b)
  | _ => intro b F β T hp a w K hT hS h; exact h.elim

/-! ### Functions -/

/-- The results of a function. -/
def resAll (P : Program) (T : Tm) (hp : Hp) : List ResultVar → (List SV → Prop) → Prop
  | [], K => K []
  | .tmp t :: r, K => resAll P T hp r fun l => K (nth T t :: l)
  | .cell a ty :: r, K => xLoad P ty (nth T a) hp fun v => resAll P T hp r fun l => K (v :: l)
def rowOf : List SV → SV
  | [] => .nil
  | x :: r => .cons x (rowOf r)
def resVal : List SV → SV
  | [x] => x
  | l => .tup (rowOf l)

section
variable {P : Program} {F : Fr} {β : List Nat} {hp : Hp} {w : World}
theorem rowOf_ok : ∀ l : List SV, (∀ x ∈ l, x.one = true ∧ x.wf β.length) → (rowOf l).wf β.length ∧ (rowOf l).vals β = l.map (SV.val β)
  | [], _ => ⟨trivial, rfl⟩
  | x :: r, h => by
    obtain ⟨h1, h2⟩ := rowOf_ok r fun y hy => h y (List.mem_cons_of_mem _ hy)
    obtain ⟨g1, g2⟩ := h x List.mem_cons_self
    exact ⟨⟨g2, h1⟩, by simp [rowOf, SV.vals, SV.vals_one β g1, h2]⟩

def resOne (tmps : Array Value) : ResultVar → Sem Value
  | .tmp t => pure (tmps.getD t undef)
  | .cell a t => do loadVar t (← asAddr (tmps.getD a undef))

theorem resAll_sound (hS : Sat F β hp w) {T : Tm} {a : Act} (hT : TOk β T a) : ∀ (l : List ResultVar) (K : List SV → Prop), resAll P T hp l K →
    ∃ xs, K xs ∧ (∀ x ∈ xs, x.one = true ∧ x.wf β.length) ∧ (l.mapM (resOne a.tmps)).run P w = .ok (xs.map (SV.val β)) w
  | [], K, h => ⟨[], h, fun x hx => (by cases hx), rfl⟩
  | .tmp t :: r, K, h => by
    obtain ⟨xs, h1, h2, h3⟩ := resAll_sound hS hT r _ h
    obtain ⟨g1, g2, g3⟩ := hT.ev (.tmp t)
    refine ⟨_, h1, fun x hx => ?_, ?_⟩
    · rcases List.mem_cons.1 hx with rfl | hx
      · exact ⟨g1, g2⟩
      · exact h2 x hx
    · rw [List.mapM_cons]
      have hr : resOne a.tmps (.tmp t) = pure (a.eval (.tmp t)) := rfl
      rw [hr, g3]
      simp [h3, ev]
  | .cell b ty :: r, K, h => by
    obtain ⟨v, h1, h2, h3, h4⟩ := xLoad_sound hS h
    obtain ⟨xs, k1, k2, k3⟩ := resAll_sound hS hT r _ h1
    refine ⟨_, k1, fun x hx => ?_, ?_⟩
    · rcases List.mem_cons.1 hx with rfl | hx
      · exact ⟨h2, h3⟩
      · exact k2 x hx
    · rw [List.mapM_cons]
      have h5 := h4 w hS
      have h6 := (hT.ev (.tmp b)).2.2
      have hr : (resOne a.tmps (.cell b ty)).run P w = .ok (v.val β) w := by
        simp only [Act.eval, ev] at h6
        simp only [resOne, h6]
        simp only [resAll] at h
        unfold xLoad at h
        split at h
        · rename_i b' o hn
          rw [hn] at h5 ⊢
          exact h5
        · rename_i id off hn
          rw [hn] at h5 ⊢
          exact h5
        · exact h.elim
      simp [hr, k3]

def resV : List Value → Value
  | [x] => x
  | l => .tuple l.toArray
theorem run_results {fn : Func} {tmps : Array Value} {vs : List Value} (h : (fn.results.toList.mapM (resOne tmps)).run P w = .ok vs w) :
    (results fn tmps).run P w = .ok (resV vs) w := by
  unfold results
  rw [Array.mapM_eq_mapM_toList]
  show (do
    let vs ← List.toArray <$> fn.results.toList.mapM (resOne tmps)
    pure (if h : vs.size = 1 then vs[0] else .tuple vs) : Sem Value).run P w = _
  simp only [Sem.run_bind, Sem.run_map, h, Result.andThen_ok, Sem.run_pure]
  congr 1
  match vs with
  | [] => rfl
  | [x] => rfl
  | x :: y :: r => simp [resV]

theorem resVal_ok (xs : List SV) (h : ∀ x ∈ xs, x.one = true ∧ x.wf β.length) :
    (resVal xs).one = true ∧ (resVal xs).wf β.length ∧ resV (xs.map (SV.val β)) = (resVal xs).val β := by
  match xs with
  | [] => exact ⟨rfl, trivial, rfl⟩
  | [x] => exact ⟨(h x (by simp)).1, (h x (by simp)).2, rfl⟩
  | x :: y :: r =>
    obtain ⟨h1, h2⟩ := rowOf_ok (x :: y :: r) h
    refine ⟨rfl, h1, ?_⟩
    show _ = Value.tuple ((rowOf (x :: y :: r)).vals β).toArray
    rw [h2]
    rfl
end

/-- The temporaries at a function's beginning. -/
def argsT : Nat → List SV → List (Nat × SV)
  | _, [] => []
  | i, x :: r => (i, x) :: argsT (i + 1) r
def pad (args : List SV) (n : Nat) : Tm := ⟨max n args.length, argsT 0 args, fun _ => undef⟩
theorem look_argsT : ∀ (args : List SV) (i t : Nat), look (fun _ => undef) t (argsT i args) = if i ≤ t then (args[t - i]?).getD (.opq undef) else .opq undef
  | [], i, t => by simp [argsT, look]
  | x :: r, i, t => by
    simp only [argsT, look]
    by_cases h : i = t
    · subst h; rw [beq_self]; simp
    · rw [beq_ne h, cond_false, look_argsT r (i + 1) t]
      by_cases h2 : i ≤ t
      · rw [if_pos (by omega), if_pos h2]
        obtain ⟨k, rfl⟩ : ∃ k, t = i + 1 + k := ⟨t - (i + 1), by omega⟩
        rw [show i + 1 + k - (i + 1) = k by omega, show i + 1 + k - i = k + 1 by omega]
        rfl
      · rw [if_neg (by omega), if_neg h2]

/-- A function's symbolic twin: its body, on its arguments. -/
def xFun (C : Cfg) (call : Nat → SpecT) (L : Ways) (fn : Func) (c : Code) : SpecT := fun args hp K =>
  xCode C call L 0 c (pad args fn.ntmps) hp fun e T hp' => (match e with
    | .exit _ => False
    | _ => resAll C.P T hp' fn.results.toList fun l => K (resVal l) hp')

theorem xFun_sound {C : Cfg} (hC : CfgOk C) {call : Nat → SpecT} (hcall : CallOk C.P call) {L : Ways} (hL : WaysOk C.P L) {f : FuncId} {fn : Func} {c : Code} (hf : C.P.funcs[f]? = some fn) (hb : fn.body = some c)
    {args : List SV} {hp : Hp} {K : SV → Hp → Prop} (h : xFun C call L fn c args hp K) {F : Fr} {β : List Nat} {w : World} (hS : Sat F β hp w) (ha : ∀ x ∈ args, x.one = true ∧ x.wf β.length) :
    Calls C.P f (args.map (SV.val β)).toArray w (fun e w' => ∃ v, e = .returned v ∧ Yld F β K v w') := by
  refine calls_of_wp hf hb ?_
  have hT : TOk β (pad args fn.ntmps) { tmps := (args.map (SV.val β)).toArray ++ Array.replicate (fn.ntmps - (args.map (SV.val β)).toArray.size) undef, defers := [] } := by
    have hl : ∀ t, look (fun _ => undef) t (argsT 0 args) = (args[t]?).getD (.opq undef) := fun t => by rw [look_argsT]; simp
    refine ⟨?_, ?_, ?_, rfl⟩
    · simp [pad]; omega
    · intro t ht
      simp only [pad] at ht ⊢
      rw [hl]
      rcases Nat.lt_or_ge t args.length with h1 | h1
      · rw [Array.getElem?_append_left (by simpa using h1)]
        simp [h1]
      · have h2 : args[t]? = none := List.getElem?_eq_none h1
        rw [h2]
        simp [Array.getElem?_append, Array.getElem?_replicate, Nat.not_lt.2 h1]
        exact ⟨by omega, rfl⟩
    · intro t
      simp only [pad]
      rw [hl]
      cases hx : args[t]? with
      | none => exact ⟨rfl, trivial⟩
      | some x => exact ha x (List.mem_of_getElem? hx)
  refine wp_mono (xCode_ok hC hcall hL c 0 F β _ hp _ w _ hT hS h) fun e a w' hq => ?_
  have fin : Post F β (fun T hp' => resAll C.P T hp' fn.results.toList fun l => K (resVal l) hp') a w' → a.defers = [] ∧ ∃ v, (results fn a.tmps).run C.P w' = .ok v w' ∧ ∃ v', Ending.returned v = .returned v' ∧ Yld F β K v' w' := by
    rintro ⟨γ, T, hp', h1, h2, h3⟩
    obtain ⟨xs, k1, k2, k3⟩ := resAll_sound h2 h1 _ _ h3
    obtain ⟨r1, r2, r3⟩ := resVal_ok xs k2
    exact ⟨h1.defers, _, run_results k3, _, rfl, γ, _, hp', h2, r1, r2, r3, k1⟩
  cases e with
  | normal => exact fin hq
  | ret => exact fin hq
  | exit id =>
    obtain ⟨_, _, _, _, _, h3⟩ := hq
    exact h3.elim
  | goto l => exact hq.elim
  | panic c => exact hq.elim
  | outgrown => exact hq.elim

/-! ### Functions that are laid out where they are called -/

def noCall : Nat → SpecT := fun _ _ _ _ => False
def bodyOf (P : Program) (f : Nat) : Option (Func × Code) :=
  match P.funcs[f]? with
  | some fn => (match fn.body with
    | some c => some (fn, c)
    | none => none)
  | none => none
/-- Calls by their twins where there is one; the others are laid out, so deep. -/
def callD (C : Cfg) (call : Nat → SpecT) (L : Nat → Ways) (inl : Nat → Bool) : Nat → Nat → SpecT
  | 0, f => call f
  | d + 1, f => bif inl f then (match bodyOf C.P f with
      | some (fn, c) => xFun C (callD C call L inl d) (L f) fn c
      | none => fun _ _ _ => False)
    else call f

theorem callD_ok {C : Cfg} (hC : CfgOk C) {call : Nat → SpecT} (hcall : CallOk C.P call) {L : Nat → Ways} (hL : ∀ f, WaysOk C.P (L f)) {inl : Nat → Bool} (hi : ∀ f, inl f = true → ∀ vs w, (callFunc f vs).run C.P w = .ok (.enter f vs) w) :
    ∀ d, CallOk C.P (callD C call L inl d)
  | 0 => hcall
  | d + 1 => by
    intro f
    cases hf : inl f
    · have e : callD C call L inl (d + 1) f = call f := by simp only [callD, hf, cond_false]
      rw [e]; exact hcall f
    · refine .inl fun args hp K h => ⟨hi f hf, fun F β w hS ha => ?_⟩
      simp only [callD, hf, cond_true] at h
      cases hb : bodyOf C.P f with
      | none => rw [hb] at h; exact h.elim
      | some fc =>
        rw [hb] at h
        obtain ⟨fn, c⟩ := fc
        unfold bodyOf at hb
        split at hb
        · rename_i fn' hfn
          split at hb
          · rename_i c' hc'
            cases hb
            exact xFun_sound hC (callD_ok hC hcall hL hi d) (hL f) hfn hc' h hS ha
          · cases hb
        · cases hb
theorem callD_spec {C : Cfg} (hC : CfgOk C) {call : Nat → SpecT} (hcall : CallOk C.P call) {L : Nat → Ways} (hL : ∀ f, WaysOk C.P (L f)) {inl : Nat → Bool} (hi : ∀ f, inl f = true → ∀ vs w, (callFunc f vs).run C.P w = .ok (.enter f vs) w)
    (d : Nat) {f : Nat} (hf : inl f = true) : SpecOk C.P f (callD C call L inl (d + 1) f) := by
  refine fun args hp K h => ⟨hi f hf, fun F β w hS ha => ?_⟩
  simp only [callD, hf, cond_true] at h
  cases hb : bodyOf C.P f with
  | none => rw [hb] at h; exact h.elim
  | some fc =>
    rw [hb] at h
    obtain ⟨fn, c⟩ := fc
    unfold bodyOf at hb
    split at hb
    · rename_i fn' hfn
      split at hb
      · rename_i c' hc'
        cases hb
        exact xFun_sound hC (callD_ok hC hcall hL hi d) (hL f) hfn hc' h hS ha
      · cases hb
    · cases hb
end Vx
end
section
/- Other names for blocks; what a part of the code does not touch. -/
namespace Vx
open Go

/-! ### Other names -/

def SV.ren (ρ : Nat → Nat) : SV → SV
  | .ptr id o => .ptr (ρ id) o
  | .slice id o l c => .slice (ρ id) o l c
  | .map id => .map (ρ id)
  | .fn f caps => .fn f (caps.ren ρ)
  | .iface t v => .iface t (v.ren ρ)
  | .agg l => .agg (l.ren ρ)
  | .tup l => .tup (l.ren ρ)
  | .cons h t => .cons (h.ren ρ) (t.ren ρ)
  | x => x
/-- The new names mean what the old ones meant. -/
def Means (ρ : Nat → Nat) (β δ : List Nat) : Prop := ∀ id, id < β.length → ρ id < δ.length ∧ blk δ (ρ id) = blk β id
section
variable {ρ : Nat → Nat} {β δ : List Nat}
theorem SV.ren_vals (hm : Means ρ β δ) : ∀ x : SV, x.wf β.length → (x.ren ρ).vals δ = x.vals β ∧ (x.ren ρ).wf δ.length
  | .ptr id o, h => ⟨by simp [SV.ren, SV.vals, (hm id h).2], (hm id h).1⟩
  | .slice id o l c, h => ⟨by simp [SV.ren, SV.vals, (hm id h).2], (hm id h).1⟩
  | .map id, h => ⟨by simp [SV.ren, SV.vals, (hm id h).2], (hm id h).1⟩
  | .fn f caps, h => ⟨by simp [SV.ren, SV.vals, (SV.ren_vals hm caps h).1], (SV.ren_vals hm caps h).2⟩
  | .iface t v, h => ⟨by simp [SV.ren, SV.vals, (SV.ren_vals hm v h).1], (SV.ren_vals hm v h).2⟩
  | .agg l, h => ⟨by simp [SV.ren, SV.vals, (SV.ren_vals hm l h).1], (SV.ren_vals hm l h).2⟩
  | .tup l, h => ⟨by simp [SV.ren, SV.vals, (SV.ren_vals hm l h).1], (SV.ren_vals hm l h).2⟩
  | .cons a b, h => ⟨by simp [SV.ren, SV.vals, (SV.ren_vals hm a h.1).1, (SV.ren_vals hm b h.2).1], (SV.ren_vals hm a h.1).2, (SV.ren_vals hm b h.2).2⟩
  | .run .., h => ⟨rfl, h⟩
  | .blob .., h => ⟨rfl, h⟩
  | .int .., _ => ⟨rfl, trivial⟩
  | .bool .., _ => ⟨rfl, trivial⟩
  | .str .., _ => ⟨rfl, trivial⟩
  | .nilptr, _ => ⟨rfl, trivial⟩
  | .nilslice, _ => ⟨rfl, trivial⟩
  | .nilmap, _ => ⟨rfl, trivial⟩
  | .opq .., _ => ⟨rfl, trivial⟩
  | .nil, _ => ⟨rfl, trivial⟩
  | .gsl .., _ => ⟨rfl, trivial⟩
  | .gptr .., _ => ⟨rfl, trivial⟩
theorem SV.ren_val (hm : Means ρ β δ) (x : SV) (h : x.wf β.length) : (x.ren ρ).val δ = x.val β := by
  simp [SV.val, (SV.ren_vals hm x h).1]
theorem SV.ren_one (ρ : Nat → Nat) (x : SV) : (x.ren ρ).one = x.one := by cases x <;> rfl

def entR (ρ : Nat → Nat) (e : SV × SV × Nat) : SV × SV × Nat := (e.1.ren ρ, e.2.1.ren ρ, e.2.2)
def SObj.ren (ρ : Nat → Nat) : SObj → SObj
  | .cells l e z => .cells (l.ren ρ) e z
  | .map es c => .map (es.map (entR ρ)) c
  | .other o => .other o
theorem SObj.ren_den (hm : Means ρ β δ) (o : SObj) (h : o.wf β.length) : (o.ren ρ).den δ = o.den β ∧ (o.ren ρ).wf δ.length := by
  cases o with
  | cells l e z => exact ⟨by simp [SObj.ren, SObj.den, (SV.ren_vals hm l h).1], (SV.ren_vals hm l h).2⟩
  | map es c =>
    refine ⟨?_, fun e he => ?_⟩
    · simp only [SObj.ren, SObj.den, List.map_map]
      rw [List.map_congr_left (f := entD δ ∘ entR ρ) (g := entD β)]
      intro e he
      obtain ⟨h1, h2⟩ := h e he
      simp [entD, entR, SV.ren_val hm _ h1, SV.ren_val hm _ h2]
    · obtain ⟨e', he', rfl⟩ := List.mem_map.1 he
      obtain ⟨h1, h2⟩ := h e' he'
      exact ⟨(SV.ren_vals hm _ h1).2, (SV.ren_vals hm _ h2).2⟩
  | other o => exact ⟨rfl, trivial⟩

def renL (ρ : Nat → Nat) : List (Nat × SV) → List (Nat × SV)
  | [] => []
  | (t, x) :: r => (t, x.ren ρ) :: renL ρ r
def renT (ρ : Nat → Nat) (T : Tm) : Tm := ⟨T.n, renL ρ T.l, T.d⟩
theorem look_renL (ρ : Nat → Nat) (d : Nat → Value) (t : Nat) : ∀ l, look d t (renL ρ l) = (look d t l).ren ρ
  | [] => rfl
  | (j, x) :: r => by
    simp only [renL, look]
    cases Nat.beq j t
    · exact look_renL ρ d t r
    · rfl
theorem TOk.ren (hm : Means ρ β δ) {T : Tm} {a : Act} (h : TOk β T a) : TOk δ (renT ρ T) a :=
  ⟨h.size, fun t ht => by
    show a.tmps[t]? = some ((look T.d t (renL ρ T.l)).val δ)
    rw [look_renL, SV.ren_val hm _ (h.ok t).2]; exact h.tmps t ht,
   fun t => by
    show (look T.d t (renL ρ T.l)).one = true ∧ (look T.d t (renL ρ T.l)).wf δ.length
    rw [look_renL, SV.ren_one]; exact ⟨(h.ok t).1, (SV.ren_vals hm _ (h.ok t).2).2⟩, h.defers⟩

def renH (ρ : Nat → Nat) : List (Nat × Option SObj) → List (Nat × Option SObj)
  | [] => []
  | (i, some o) :: r => (ρ i, some (o.ren ρ)) :: renH ρ r
  | (i, none) :: r => (ρ i, none) :: renH ρ r
/-- Blocks that are gone. -/
def goneH : List Nat → List (Nat × Option SObj) → List (Nat × Option SObj)
  | [], H => H
  | i :: r, H => (i, none) :: goneH r H

theorem getH_renH {k : Nat} {o : SObj} : ∀ {H : List (Nat × Option SObj)}, getH k (renH ρ H) = some o → ∃ i o', ρ i = k ∧ getH i H = some o' ∧ o = o'.ren ρ
  | [], h => (by cases h)
  | (j, some x) :: r, h => by
    simp only [renH, getH] at h
    cases hb : Nat.beq (ρ j) k <;> rw [hb] at h
    · obtain ⟨i, o', h1, h2, h3⟩ := getH_renH h
      refine ⟨i, o', h1, ?_, h3⟩
      have hji : j ≠ i := fun e => by subst e; exact beq_f hb h1
      rw [getH_ne hji]; exact h2
    · cases h
      exact ⟨j, x, beq_t hb, getH_self _ _ _, rfl⟩
  | (j, none) :: r, h => by
    simp only [renH, getH] at h
    cases hb : Nat.beq (ρ j) k <;> rw [hb] at h
    · obtain ⟨i, o', h1, h2, h3⟩ := getH_renH h
      refine ⟨i, o', h1, ?_, h3⟩
      have hji : j ≠ i := fun e => by subst e; exact beq_f hb h1
      rw [getH_ne hji]; exact h2
    · cases h
theorem getH_goneH {k : Nat} {o : SObj} : ∀ {l : List Nat} {H : List (Nat × Option SObj)}, getH k (goneH l H) = some o → k ∉ l ∧ getH k H = some o
  | [], H, h => ⟨by simp, h⟩
  | i :: r, H, h => by
    simp only [goneH, getH] at h
    cases hb : Nat.beq i k <;> rw [hb] at h
    · obtain ⟨h1, h2⟩ := getH_goneH h
      refine ⟨fun hm => ?_, h2⟩
      rcases List.mem_cons.1 hm with rfl | hm
      · exact beq_f hb rfl
      · exact h1 hm
    · cases h
theorem getH_app {k : Nat} {o : SObj} : ∀ {A B : List (Nat × Option SObj)}, getH k (A ++ B) = some o → getH k A = some o ∨ getH k B = some o
  | [], B, h => .inr h
  | (j, x) :: r, B, h => by
    simp only [List.cons_append, getH] at h ⊢
    cases hb : Nat.beq j k <;> rw [hb] at h
    · exact getH_app h
    · exact .inl h

/-- The frame of a part of the code: all that is owned but for some blocks stays as it is. -/
noncomputable def Fr.off (F : Fr) (β : List Nat) (hp : Hp) (fp : List Nat) (w : World) : Fr :=
  open Classical in
  ⟨fun b => if ∃ j o, j ∉ fp ∧ getH j hp.H = some o ∧ blk β j = b then w.heap[b]? else F.h b, F.w0⟩

section
variable {F : Fr} {hp : Hp} {w : World} {fp : List Nat}
theorem off_other (hS : Sat F β hp w) {j : Nat} {o : SObj} (hj : j ∉ fp) (ho : getH j hp.H = some o) : (F.off β hp fp w).h (blk β j) = some (o.den β) := by
  simp only [Fr.off]
  rw [if_pos ⟨j, o, hj, ho, rfl⟩]
  exact (hS.own j o ho).2.2.2
theorem off_cases (hS : Sat F β hp w) {b : Nat} : (∃ j o, j ∉ fp ∧ getH j hp.H = some o ∧ blk β j = b ∧ (∀ x, ¬ fixd F hp.G b x)) ∨ (F.off β hp fp w).h b = F.h b := by
  by_cases h : ∃ j o, j ∉ fp ∧ getH j hp.H = some o ∧ blk β j = b
  · obtain ⟨j, o, h1, h2, h3⟩ := h
    exact .inl ⟨j, o, h1, h2, h3, h3 ▸ (hS.own j o h2).2.2.1⟩
  · exact .inr (by simp only [Fr.off]; rw [if_neg h])

/-- What is known of fewer blocks, under other names. -/
theorem Sat.part (hS : Sat F β hp w) {βp : List Nat} {Hp0 : List (Nat × Option SObj)} {Gp : Nat → Option Obj} (hG : ∀ b o, Gp b = some o → hp.G b = some o) (src : Nat → Nat)
    (hown : ∀ i o, getH i Hp0 = some o → i < βp.length ∧ o.wf βp.length ∧ src i ∈ fp ∧ ∃ o', getH (src i) hp.H = some o' ∧ blk βp i = blk β (src i) ∧ o.den βp = o'.den β)
    (hinj : ∀ i o i' o', getH i Hp0 = some o → getH i' Hp0 = some o' → i ≠ i' → src i ≠ src i') :
    Sat (F.off β hp fp w) βp ⟨βp.length, Hp0, [], Gp⟩ w := by
  have hfix : ∀ i o, getH i Hp0 = some o → ∀ x, ¬ fixd (F.off β hp fp w) Gp (blk βp i) x := by
    intro i o ho x hx
    obtain ⟨_, _, hfp, o', h1, h2, _⟩ := hown i o ho
    have hno := (hS.own _ _ h1).2.2.1
    rcases hx with hx | hx
    · rcases off_cases (fp := fp) hS (b := blk βp i) with ⟨j, oj, hj, hoj, hb, _⟩ | he
      · have : j ≠ src i := fun e => hj (e ▸ hfp)
        exact hS.apart j oj _ o' hoj h1 this (hb.trans h2)
      · rw [he] at hx
        exact hno x (h2 ▸ .inl hx)
    · exact hno x (h2 ▸ .inr (hG _ _ hx))
  refine ⟨rfl, hS.outer, ?_, ?_, ?_, fun e he => (by cases he), ?_⟩
  · intro b o hb
    rcases hb with hb | hb
    · rcases off_cases (fp := fp) hS (b := b) with ⟨j, oj, hj, hoj, hb', _⟩ | he
      · subst hb'
        rw [off_other hS hj hoj] at hb
        cases hb
        exact (hS.own j oj hoj).2.2.2
      · rw [he] at hb; exact hS.ext b o (.inl hb)
    · exact hS.ext b o (.inr (hG b o hb))
  · intro i o ho
    obtain ⟨h1, h2, _, o', h4, h5, h6⟩ := hown i o ho
    exact ⟨h1, h2, hfix i o ho, by rw [h5, h6]; exact (hS.own _ _ h4).2.2.2⟩
  · intro i o i' o' ho ho' hne
    obtain ⟨_, _, _, x, h1, h2, _⟩ := hown i o ho
    obtain ⟨_, _, _, x', h1', h2', _⟩ := hown i' o' ho'
    rw [h2, h2']
    exact hS.apart _ _ _ _ h1 h1' (hinj i o i' o' ho ho' hne)
  · intro b o hb
    rcases off_cases (fp := fp) hS (b := b) with ⟨j, oj, hj, hoj, hb', hno⟩ | he
    · exact absurd (.inr (hG b o hb)) (hno o)
    · rw [he]; exact hS.disj b o (hG b o hb)

/-- And back: the other blocks are as they were. -/
theorem Sat.back (hS : Sat F β hp w) {βp : List Nat} {hp' : Hp} {w' : World} (hS' : Sat (F.off β hp fp w) βp hp' w') {γ : List Nat} (hm : Means ρ βp (β ++ γ)) {n : Nat} (hn : n = (β ++ γ).length) :
    Sat F (β ++ γ) ⟨n, renH ρ hp'.H ++ goneH fp hp.H, [], hp'.G⟩ w' := by
  -- a block is renamed, or another one
  have cases_ : ∀ k o, getH k (renH ρ hp'.H ++ goneH fp hp.H) = some o →
      (∃ i o', ρ i = k ∧ getH i hp'.H = some o' ∧ o = o'.ren ρ) ∨ (k ∉ fp ∧ getH k hp.H = some o) := fun k o h => by
    rcases getH_app h with h | h
    · exact .inl (getH_renH h)
    · exact .inr (getH_goneH h)
  have hother : ∀ k o, k ∉ fp → getH k hp.H = some o → fixd (F.off β hp fp w) hp'.G (blk β k) (o.den β) := fun k o hk ho => .inl (off_other hS hk ho)
  have hF : ∀ b o, F.h b = some o → (F.off β hp fp w).h b = some o := fun b o hb => by
    rcases off_cases (fp := fp) hS (b := b) with ⟨j, oj, hj, hoj, hb', hno⟩ | he
    · exact absurd (.inl hb) (hno o)
    · rw [he]; exact hb
  have hlen : ∀ k : Nat, k < β.length → k < (β ++ γ).length := fun k hk => by simp; omega
  refine ⟨hn, hS'.outer, ?_, ?_, ?_, fun e he => (by cases he), ?_⟩
  · intro b o hb
    exact hS'.ext b o (hb.imp (hF b o) id)
  · intro k o ho
    rcases cases_ k o ho with ⟨i, o', rfl, h1, rfl⟩ | ⟨hk, h1⟩
    · obtain ⟨g1, g2, g3, g4⟩ := hS'.own i o' h1
      obtain ⟨m1, m2⟩ := hm i g1
      obtain ⟨d1, d2⟩ := SObj.ren_den hm o' g2
      refine ⟨m1, d2, fun x hx => g3 x ?_, by rw [m2, d1]; exact g4⟩
      rw [m2] at hx
      exact hx.imp (hF _ x) id
    · obtain ⟨g1, g2, g3, g4⟩ := hS.own k o h1
      rw [okOwn, blk_append g1, SObj.den_append _ _ _ g2]
      refine ⟨hlen k g1, SObj.wf_mono (by simp) _ g2, fun x hx => ?_, hS'.ext _ _ (hother k o hk h1)⟩
      rcases hx with hx | hx
      · exact g3 x (.inl hx)
      · have := hS'.disj _ _ hx
        rw [off_other hS hk h1] at this
        cases this
  · intro k o k' o' ho ho' hne
    rcases cases_ k o ho with ⟨i, x, rfl, h1, rfl⟩ | ⟨hk, h1⟩
    · obtain ⟨g1, _, g3, _⟩ := hS'.own i x h1
      rcases cases_ k' o' ho' with ⟨i', x', rfl, h1', rfl⟩ | ⟨hk', h1'⟩
      · obtain ⟨g1', _⟩ := hS'.own i' x' h1'
        rw [(hm i g1).2, (hm i' g1').2]
        exact hS'.apart i x i' x' h1 h1' (fun e => hne (by rw [e]))
      · rw [(hm i g1).2, blk_append (hS.own k' o' h1').1]
        intro e
        exact g3 _ (e ▸ hother k' o' hk' h1')
    · rcases cases_ k' o' ho' with ⟨i', x', rfl, h1', rfl⟩ | ⟨hk', h1'⟩
      · obtain ⟨g1', _, g3', _⟩ := hS'.own i' x' h1'
        rw [(hm i' g1').2, blk_append (hS.own k o h1).1]
        intro e
        exact g3' _ (e ▸ hother k o hk h1)
      · rw [blk_append (hS.own k o h1).1, blk_append (hS.own k' o' h1').1]
        exact hS.apart k o k' o' h1 h1' hne
  · intro b o hb
    have h1 := hS'.disj b o hb
    rcases off_cases (fp := fp) hS (b := b) with ⟨j, oj, hj, hoj, hb', hno⟩ | he
    · cases hF : F.h b with
      | none => rfl
      | some x => exact absurd (.inl hF) (hno x)
    · rw [← he]; exact h1
end
end
end Vx
end
