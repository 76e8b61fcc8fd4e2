/- What this text proves, part by part: Regions in whatever order: what only computes first, then what is loaded, then all orders of the rest. Code, loops, functions. Other names for blocks; what a part of the code does not touch. A state held against a pattern: other names, and what has to be alike. What functions and loops do, said once: patterns of arguments, heaps and results. No condition is added. -/
import Derived.Test.YtafngdeeachggaaGreatFrames01
import Derived.Test.YtafngdeeachggaaGreatFrames02
import Derived.Test.YtafngdeeachggaaGreatFrames03
set_option linter.unusedVariables false
set_option linter.unusedSimpArgs false
section
/- Regions in whatever order: what only computes first, then what is loaded, then all orders of the rest. -/
namespace Vx
open Go

section
variable {P : Program} {ops : Array Oper} {Q : Exit → Act → World → Prop}

/-- Does an operation wait for another one's end? -/
def waitsFor (ops : Array Oper) (j i : Nat) : Bool :=
  match ops[j]? with
  | some o => o.after.any fun e => Region.binds .any e && Nat.beq e.on i
  | none => false
abbrev Watch := Nat × (World → Prop)
def holdW (W : List Watch) (w : World) : Prop := ∀ x ∈ W, x.2 w
def alive (ops : Array Oper) (j : Nat) (W : List Watch) : List Watch := W.filter fun x => !waitsFor ops j x.1

/-- All orders; and what is watched holds behind each operation that need not wait. -/
def wpC (P : Program) (ops : Array Oper) (Q : Exit → Act → World → Prop) : Nat → List Watch → Array Bool → Act → World → Prop
  | 0, _, listed, a, w => Region.ready .any ops listed = [] ∧ Q .normal a w
  | fuel + 1, W, listed, a, w =>
    (Region.ready .any ops listed = [] → Q .normal a w) ∧
    ∀ j ∈ Region.ready .any ops listed, wpOp P ops Q j (fun a' w' => holdW (alive ops j W) w' ∧ wpC P ops Q fuel (alive ops j W) (listed.setIfInBounds j true) a' w') a w

theorem alive_sub {j : Nat} {W W' : List Watch} (h : W' ⊆ W) : alive ops j W' ⊆ alive ops j W := by
  intro x hx
  simp only [alive, List.mem_filter] at hx ⊢
  exact ⟨h hx.1, hx.2⟩
theorem holdW_sub {W W' : List Watch} (h : W' ⊆ W) {w : World} (hw : holdW W w) : holdW W' w := fun x hx => hw x (h hx)
theorem wpC_sub : ∀ (fuel : Nat) {W W' : List Watch} {listed : Array Bool} {a : Act} {w : World}, (∀ x ∈ W', x ∈ W ∨ ∀ w, x.2 w) → wpC P ops Q fuel W listed a w → wpC P ops Q fuel W' listed a w
  | 0, _, _, _, _, _, _, h => h
  | fuel + 1, W, W', _, _, _, hs, h => by
    refine ⟨h.1, fun j hj => wpOp_mono (fun _ _ h' => ?_) (h.2 j hj)⟩
    have hs' : ∀ x ∈ alive ops j W', x ∈ alive ops j W ∨ ∀ w, x.2 w := fun x hx => by
      simp only [alive, List.mem_filter] at hx ⊢
      exact (hs x hx.1).imp (fun h => ⟨h, hx.2⟩) id
    exact ⟨fun x hx => (hs' x hx).elim (h'.1 x) fun h => h _, wpC_sub fuel hs' h'.2⟩
theorem wpC_any : ∀ (fuel : Nat) {W : List Watch} {listed : Array Bool} {a : Act} {w : World}, wpC P ops Q fuel W listed a w → wpAny P .any ops Q fuel listed a w
  | 0, _, _, _, _, h => h
  | fuel + 1, _, _, _, _, h => ⟨h.1, fun j hj => wpOp_mono (fun _ _ h' => wpC_any fuel h'.2) (h.2 j hj)⟩

/-- An operation comes to a value wherever something holds, and leaves all as it was. -/
def YI (P : Program) (ops : Array Oper) (o : Oper) (v : Value) (I : World → Prop) (a : Act) : Prop :=
  (Region.wanted o (yielded ops a.tmps) = true ∧ ∀ w, I w → (execOp a.eval o).run P w = .ok (.value v) w) ∨
  (Region.wanted o (yielded ops a.tmps) = false ∧ v = undef)
theorem YI.same {o : Oper} {v : Value} {I : World → Prop} {a a' : Act} (h : YI P ops o v I a) (he : execOp a'.eval o = execOp a.eval o)
    (hw : Region.wanted o (yielded ops a'.tmps) = Region.wanted o (yielded ops a.tmps)) : YI P ops o v I a' := by
  unfold YI at *; rw [he, hw]; exact h
theorem YI.wpOp {i : Nat} {o : Oper} {v : Value} {I : World → Prop} {a : Act} (hi : ops[i]? = some o) (h : YI P ops o v I a)
    {K : Act → World → Prop} {w : World} (hw : I w) (hK : K (a.put o.dst v) w) : wpOp P ops Q i K a w := by
  unfold Go.wpOp
  simp only [hi]
  rcases h with ⟨h1, h2⟩ | ⟨h1, rfl⟩
  · rw [if_pos h1]
    exact .inl (by unfold Oper.wp; rw [h2 w hw]; exact hK)
  · rw [if_neg (by rw [h1]; simp)]; exact hK

theorem YI.past {j : Nat} {oi oj : Oper} {v : Value} {I : World → Prop} (hj : ops[j]? = some oj) (hap : oi.apart ops oj = true)
    (hsi : ∀ cs b, oi.op ≠ .select cs b) (hsj : ∀ cs b, oj.op ≠ .select cs b)
    (hQ : ∀ c a w, Q (.panic c) (a.put oi.dst v) w → Q (.panic c) a w) {K : Act → World → Prop} {a : Act} {w : World}
    (hy : YI P ops oi v I a) (h : Go.wpOp P ops Q j K (a.put oi.dst v) w) :
    Go.wpOp P ops Q j (fun a' w' => YI P ops oi v I a' ∧ K (a'.put oi.dst v) w') a w := by
  obtain ⟨h1, h2, h3⟩ := Oper.apart_spec hap
  have keep : ∀ u, YI P ops oi v I (a.put oj.dst u) := fun u => hy.same (execOp_put oi hsi a oj.dst u h3) (wanted_put oi a oj.dst u h3)
  have comm : ∀ u, (a.put oi.dst v).put oj.dst u = (a.put oj.dst u).put oi.dst v := fun u => Act.put_comm a v u h2
  unfold Go.wpOp at *
  simp only [hj] at *
  rw [wanted_put oj a oi.dst v h1] at h
  cases hw : Region.wanted oj (yielded ops a.tmps) <;> rw [hw] at h
  · rw [if_neg (by simp)] at h ⊢
    exact ⟨keep undef, by rw [← comm]; exact h⟩
  · rw [if_pos rfl] at h ⊢
    have hx := execOp_put oj hsj a oi.dst v h1
    rcases h with h | ⟨ha, hl⟩
    · refine .inl ?_
      unfold Oper.wp at *
      rw [hx] at h
      cases hr : (execOp a.eval oj).run P w with
      | ok n w' =>
        rw [hr] at h
        cases n with
        | value u => exact ⟨keep u, by rw [← comm]; exact h⟩
        | skip => exact ⟨keep undef, by rw [← comm]; exact h⟩
        | defer d =>
          refine ⟨(hy.same rfl rfl : YI P ops oi v I { a with defers := d :: a.defers }).same (execOp_put oi hsi _ oj.dst undef h3) (wanted_put oi _ oj.dst undef h3), ?_⟩
          show K (({ a with defers := d :: a.defers } : Act).put oj.dst undef |>.put oi.dst v) w'
          rw [← Act.put_comm _ v undef h2, ← Act.put_defers]
          exact h
        | enter f args =>
          refine Calls.mono (h : Calls P f args w' _) fun e w'' he => ?_
          cases e with
          | returned u => exact ⟨keep u, by rw [← comm]; exact he⟩
          | panicked c => exact hQ _ _ _ he
          | outgrown => exact he
        | row row args => exact Rows.mono (h : Rows P row args w' _) fun u w'' he => ⟨keep u, by rw [← comm]; exact he⟩
        | _ => exact h
      | halt x w' =>
        rw [hr] at h
        cases x with
        | panic u => exact hQ _ _ _ h
        | _ => exact h
    · exact .inr ⟨by unfold Oper.asks at *; rw [hx] at ha; exact ha, hl⟩

theorem waitsFor_ready {i j : Nat} {listed : Array Bool} (hi : i ∈ Region.ready .any ops listed) (hj : j ∈ Region.ready .any ops listed) : waitsFor ops j i = false := by
  obtain ⟨_, oj, hoj, hall⟩ := mem_ready.1 hj
  have h0 := (mem_ready.1 hi).1
  cases hw : waitsFor ops j i
  · rfl
  · simp only [waitsFor, hoj] at hw
    obtain ⟨e, he, hb⟩ := Array.any_eq_true'.1 hw
    simp only [Bool.and_eq_true] at hb
    have h1 := hall e he hb.1
    have h2 : e.on = i := Nat.eq_of_beq_eq_true hb.2
    rw [h2] at h1
    rcases Nat.lt_or_ge i listed.size with h' | h'
    · simp [h'] at h0 h1; rw [h0] at h1; cases h1
    · simp [Array.getElem?_eq_none h'] at h1

/-- What may be done first, is. -/
theorem wpC_first {i : Nat} {oi : Oper} {v : Value} {I : World → Prop} (hi : ops[i]? = some oi) (hsel : ∀ (j : Nat) (o : Oper) cs b, ops[j]? = some o → o.op ≠ .select cs b)
    (hQ : ∀ c a w, Q (.panic c) (a.put oi.dst v) w → Q (.panic c) a w) :
    ∀ (fuel : Nat) (W : List Watch) (listed : Array Bool) (a : Act) (w : World),
      (∀ j oj, ops[j]? = some oj → j ≠ i → listed.getD j true = false → (∀ e ∈ oj.after, Region.binds .any e = true → e.on ≠ i) → oi.apart ops oj = true) →
      i ∈ Region.ready .any ops listed → YI P ops oi v I a → I w → holdW (alive ops i W) w →
      wpC P ops Q fuel ((i, I) :: W) (listed.setIfInBounds i true) (a.put oi.dst v) w → wpC P ops Q (fuel + 1) W listed a w := by
  intro fuel
  have take : ∀ (fuel : Nat) (W : List Watch) (listed : Array Bool) (a : Act) (w : World), YI P ops oi v I a → I w → holdW (alive ops i W) w →
      wpC P ops Q fuel ((i, I) :: W) (listed.setIfInBounds i true) (a.put oi.dst v) w →
      Go.wpOp P ops Q i (fun a' w' => holdW (alive ops i W) w' ∧ wpC P ops Q fuel (alive ops i W) (listed.setIfInBounds i true) a' w') a w := by
    intro fuel W listed a w hy hw hW H
    refine hy.wpOp hi hw ⟨hW, wpC_sub fuel (fun x hx => .inl ?_) H⟩
    exact List.mem_cons_of_mem _ (List.mem_filter.1 hx).1
  induction fuel with
  | zero =>
    intro W listed a w _ hr hy hw hW H
    refine ⟨fun h => (by rw [h] at hr; cases hr), fun j hj => ?_⟩
    by_cases hji : j = i
    · subst hji; exact take 0 W listed a w hy hw hW H
    · have := ready_mono hj hji
      rw [H.1] at this
      cases this
  | succ fuel ih =>
    intro W listed a w hfree hr hy hw hW H
    refine ⟨fun h => (by rw [h] at hr; cases hr), fun j hj => ?_⟩
    by_cases hji : j = i
    · subst hji; exact take _ W listed a w hy hw hW H
    · have h1 := H.2 j (ready_mono hj hji)
      obtain ⟨hjun, oj, hoj, hall⟩ := mem_ready.1 hj
      have hwf := waitsFor_ready hr hj
      have hnot : ∀ e ∈ oj.after, Region.binds .any e = true → e.on ≠ i := fun e he hb heq => by
        have : waitsFor ops j i = true := by
          simp only [waitsFor, hoj]
          exact Array.any_eq_true'.2 ⟨e, he, by simp [hb, heq, beq_self]⟩
        rw [hwf] at this; cases this
      have hal : alive ops j ((i, I) :: W) = (i, I) :: alive ops j W := by simp [alive, hwf]
      rw [hal] at h1
      have h2 := YI.past hoj (hfree j oj hoj hji hjun hnot) (fun cs b => hsel i oi cs b hi) (fun cs b => hsel j oj cs b hoj) hQ hy h1
      have hfree' : ∀ k ok, ops[k]? = some ok → k ≠ i → (listed.setIfInBounds j true).getD k true = false →
          (∀ e ∈ ok.after, Region.binds .any e = true → e.on ≠ i) → oi.apart ops ok = true := fun k ok hk hki hun hno => by
        refine hfree k ok hk hki ?_ hno
        by_cases hjk : j = k
        · subst hjk; exact hjun
        · rw [getD_set_ne true hjk] at hun; exact hun
      refine wpOp_mono (fun a' w' h3 => ?_) h2
      obtain ⟨h4, h5, h6⟩ := h3
      refine ⟨fun x hx => h5 x (List.mem_cons_of_mem _ hx), ih (alive ops j W) (listed.setIfInBounds j true) a' w' hfree' (ready_mono hr (Ne.symm hji)) h4 (h5 (i, I) List.mem_cons_self) (fun x hx => h5 x (List.mem_cons_of_mem _ (List.mem_filter.1 hx).1)) ?_⟩
      rw [Array.setIfInBounds_comm _ _ hji]
      exact h6
end

/-! ### On symbolic values -/

def eqI (a b : IE) (K : Prop) : Prop :=
  match a, b with
  | .lit x, .lit y => bif decide (x = y) then K else False
  | a, b => a.den = b.den ∧ K
theorem eqI_sound {a b : IE} {K : Prop} (h : eqI a b K) : a.den = b.den ∧ K := by
  unfold eqI at h
  split at h
  · rename_i x y
    cases hd : decide (x = y) <;> rw [hd] at h
    · exact h.elim
    · exact ⟨of_decide_eq_true hd, h⟩
  · exact h
/-- The same offset, or two that are alike. -/
def eqO (a b : Off) (K : Prop) : Prop :=
  match a, b with
  | .lit x, .lit y => bif Nat.beq x y then K else False
  | a, b => a.den = b.den ∧ K
theorem eqO_sound {a b : Off} {K : Prop} (h : eqO a b K) : a.den = b.den ∧ K := by
  unfold eqO at h
  split at h
  · rename_i x y
    cases hb : Nat.beq x y <;> rw [hb] at h
    · exact h.elim
    · exact ⟨beq_t hb, h⟩
  · exact h
def eqB (a b : BE) (K : Prop) : Prop :=
  match a, b with
  | .lit x, .lit y => bif decide (x = y) then K else False
  | a, b => a.den = b.den ∧ K
theorem eqB_sound {a b : BE} {K : Prop} (h : eqB a b K) : a.den = b.den ∧ K := by
  unfold eqB at h
  split at h
  · rename_i x y
    cases hd : decide (x = y) <;> rw [hd] at h
    · exact h.elim
    · exact ⟨of_decide_eq_true hd, h⟩
  · exact h
def eqM (a b : NE) (K : Prop) : Prop :=
  match a, b with
  | .lit x, .lit y => bif Nat.beq x y then K else False
  | a, b => a.den = b.den ∧ K
theorem eqM_sound {a b : NE} {K : Prop} (h : eqM a b K) : a.den = b.den ∧ K := by
  unfold eqM at h
  split at h
  · rename_i x y
    cases hb : Nat.beq x y <;> rw [hb] at h
    · exact h.elim
    · exact ⟨beq_t hb, h⟩
  · exact h
/-- Two that are alike. -/
def eqV : SV → SV → Prop → Prop
  | .int k a, .int k' b, K => bif decide (k = k') then eqI a b K else False
  | .bool a, .bool b, K => eqB a b K
  | .str a, .str b, K => a.den = b.den ∧ K
  | .nilptr, .nilptr, K => K
  | .ptr i o, .ptr j o', K => bif Nat.beq i j then eqO o o' K else False
  | .nilslice, .nilslice, K => K
  | .slice i o l c, .slice j o' l' c', K => bif Nat.beq i j then eqO o o' (eqM l l' (eqM c c' K)) else False
  | .nilmap, .nilmap, K => K
  | .map i, .map j, K => bif Nat.beq i j then K else False
  | .opq v, .opq v', K => v = v' ∧ K
  | .agg a, .agg b, K => eqV a b K
  | .tup a, .tup b, K => eqV a b K
  | .nil, .nil, K => K
  | .cons a b, .cons c d, K => eqV a c (eqV b d K)
  | .run k n xs, .run k' n' ys, K => bif decide (k = k') then xs.den = ys.den ∧ K else False
  | .blob _ vs, .blob _ vs', K => vs = vs' ∧ K
  | .gsl a l c, .gsl a' l' c', K => a = a' ∧ eqM l l' (eqM c c' K)
  | .gptr b o, .gptr b' o', K => b = b' ∧ o = o' ∧ K
  | _, _, _ => False
theorem NE.i_inj {a b : NE} (h : a.i.den = b.i.den) : a.den = b.den := by
  rw [NE.i_den, NE.i_den] at h; omega
theorem eqV_sound (β : List Nat) : ∀ (a b : SV) (K : Prop), eqV a b K → a.vals β = b.vals β ∧ K := by
  intro a
  induction a with
  | int k x =>
    intro b K h
    cases b <;> try exact h.elim
    simp only [eqV] at h
    rename_i k' y
    cases hd : decide (k = k') <;> rw [hd] at h
    · exact h.elim
    · obtain ⟨h1, h2⟩ := eqI_sound h
      have := of_decide_eq_true hd
      exact ⟨by simp [SV.vals, h1, this], h2⟩
  | bool x =>
    intro b K h
    cases b <;> try exact h.elim
    obtain ⟨h1, h2⟩ := eqB_sound h
    exact ⟨by simp [SV.vals, h1], h2⟩
  | str x =>
    intro b K h
    cases b <;> try exact h.elim
    exact ⟨by simp [SV.vals, h.1], h.2⟩
  | ptr i o =>
    intro b K h
    cases b <;> try exact h.elim
    simp only [eqV] at h
    rename_i j o'
    cases hb : Nat.beq i j <;> rw [hb] at h
    · exact h.elim
    · obtain ⟨h1, h2⟩ := eqO_sound h
      have := beq_t hb
      exact ⟨by simp [SV.vals, h1, this], h2⟩
  | slice i o l c =>
    intro b K h
    cases b <;> try exact h.elim
    simp only [eqV] at h
    rename_i j o' l' c'
    cases hb : Nat.beq i j <;> rw [hb] at h
    · exact h.elim
    · obtain ⟨h1, h2⟩ := eqO_sound h
      obtain ⟨h3, h2⟩ := eqM_sound h2
      obtain ⟨h4, h2⟩ := eqM_sound h2
      have := beq_t hb
      exact ⟨by simp [SV.vals, h1, this, h3, h4], h2⟩
  | map i =>
    intro b K h
    cases b <;> try exact h.elim
    simp only [eqV] at h
    rename_i j
    cases hb : Nat.beq i j <;> rw [hb] at h
    · exact h.elim
    · have := beq_t hb
      exact ⟨by simp [SV.vals, this], h⟩
  | opq v =>
    intro b K h
    cases b <;> try exact h.elim
    exact ⟨by simp [SV.vals, h.1], h.2⟩
  | agg x ih =>
    intro b K h
    cases b <;> try exact h.elim
    obtain ⟨h1, h2⟩ := ih _ _ h
    exact ⟨by simp [SV.vals, h1], h2⟩
  | tup x ih =>
    intro b K h
    cases b <;> try exact h.elim
    obtain ⟨h1, h2⟩ := ih _ _ h
    exact ⟨by simp [SV.vals, h1], h2⟩
  | cons x y ihx ihy =>
    intro b K h
    cases b <;> try exact h.elim
    obtain ⟨h1, h⟩ := ihx _ _ h
    obtain ⟨h2, h⟩ := ihy _ _ h
    exact ⟨by simp [SV.vals, h1, h2], h⟩
  | run k n xs =>
    intro b K h
    cases b <;> try exact h.elim
    simp only [eqV] at h
    rename_i k' n' ys
    cases hd : decide (k = k') <;> rw [hd] at h
    · exact h.elim
    · have := of_decide_eq_true hd
      exact ⟨by simp [SV.vals, h.1, this], h.2⟩
  | blob n vs =>
    intro b K h
    cases b <;> try exact h.elim
    exact ⟨by simp [SV.vals, h.1], h.2⟩
  | gsl x l c =>
    intro b K h
    cases b <;> try exact h.elim
    obtain ⟨h1, h⟩ := h
    obtain ⟨h2, h⟩ := eqM_sound h
    obtain ⟨h3, h⟩ := eqM_sound h
    exact ⟨by simp [SV.vals, h1, h2, h3], h⟩
  | gptr x o =>
    intro b K h
    cases b <;> try exact h.elim
    exact ⟨by simp [SV.vals, h.1, h.2.1], h.2.2⟩
  | nilptr => intro b K h; cases b <;> first | exact ⟨rfl, h⟩ | exact h.elim
  | nilslice => intro b K h; cases b <;> first | exact ⟨rfl, h⟩ | exact h.elim
  | nilmap => intro b K h; cases b <;> first | exact ⟨rfl, h⟩ | exact h.elim
  | nil => intro b K h; cases b <;> first | exact ⟨rfl, h⟩ | exact h.elim
  | _ => intro b K h; cases b <;> exact h.elim

/-- A load that was done early: the operation, its type, its address, what it came to. -/
structure Wt where
  i : Nat
  t : TypeId
  c : Option TypeId
  x : SV
  v : SV
/-- A conversion comes to a value, now and wherever nothing is lost. -/
def Convs (P : Program) (t d : TypeId) (x v : Value) (w : World) : Prop := ∀ w', Ext w w' → (convert t d x).run P w' = .ok v w'
def Reads (P : Program) (t : TypeId) (c : Option TypeId) (x v : Value) (w : World) : Prop := match c with
  | none => Loads P t x v w
  | some d => Convs P t d x v w
def Wt.I (P : Program) (β : List Nat) (y : Wt) : Watch := (y.i, Reads P y.t y.c (y.x.val β) (y.v.val β))
def Wt.wf (n : Nat) (y : Wt) : Prop := y.x.wf n ∧ y.v.wf n
def aliveT (ops : Array Oper) (j : Nat) : List Wt → List Wt
  | [] => []
  | y :: r => bif waitsFor ops j y.i then aliveT ops j r else y :: aliveT ops j r
/-- All that was loaded early is still there. -/
def checkW (P : Program) (hp : Hp) : List Wt → Prop → Prop
  | [], K => K
  | y :: r, K => (match y.c with
    | none => xLoad P y.t y.x hp fun v => eqV v y.v (checkW P hp r K)
    | some d => xConvB P y.t d y.x hp fun v => eqV v y.v (checkW P hp r K))

section
variable {C : Cfg} {F : Fr} {β : List Nat} {hp : Hp} {w : World}
theorem aliveT_map (ops : Array Oper) (j : Nat) (P : Program) (β : List Nat) : ∀ W : List Wt, alive ops j (W.map (Wt.I P β)) = (aliveT ops j W).map (Wt.I P β)
  | [] => rfl
  | y :: r => by
    have ih := aliveT_map ops j P β r
    simp only [alive] at ih
    simp only [alive, List.map_cons, aliveT]
    have hi : (Wt.I P β y).1 = y.i := rfl
    rw [List.filter_cons, hi, ih]
    cases waitsFor ops j y.i <;> rfl
theorem aliveT_mem {ops : Array Oper} {j : Nat} {y : Wt} : ∀ {W : List Wt}, y ∈ aliveT ops j W → y ∈ W
  | z :: r, h => by
    simp only [aliveT] at h
    cases hw : waitsFor ops j z.i <;> rw [hw] at h
    · rcases List.mem_cons.1 h with rfl | h
      · exact List.mem_cons_self
      · exact List.mem_cons_of_mem _ (aliveT_mem h)
    · exact List.mem_cons_of_mem _ (aliveT_mem h)
theorem Wt.I_append {y : Wt} (h : y.wf β.length) (P : Program) (γ : List Nat) : y.I P (β ++ γ) = y.I P β := by
  simp [Wt.I, SV.val_append β γ _ h.1, SV.val_append β γ _ h.2]
theorem map_append {W : List Wt} (h : ∀ y ∈ W, y.wf β.length) (P : Program) (γ : List Nat) : W.map (Wt.I P (β ++ γ)) = W.map (Wt.I P β) :=
  List.map_congr_left fun y hy => Wt.I_append (h y hy) P γ
theorem checkW_sound {P : Program} (hS : Sat F β hp w) : ∀ {W : List Wt} {K : Prop}, checkW P hp W K → holdW (W.map (Wt.I P β)) w ∧ K
  | [], K, h => ⟨fun x hx => (by cases hx), h⟩
  | y :: r, K, h => by
    have fin : ∀ sv : SV, eqV sv y.v (checkW P hp r K) → Reads P y.t y.c (y.x.val β) (sv.val β) w → holdW ((y :: r).map (Wt.I P β)) w ∧ K := by
      intro sv h1 h4
      obtain ⟨h5, h6⟩ := eqV_sound β _ _ _ h1
      obtain ⟨h7, h8⟩ := checkW_sound hS h6
      refine ⟨fun x hx => ?_, h8⟩
      rcases List.mem_cons.1 hx with rfl | hx
      · rw [show sv.val β = y.v.val β by simp [SV.val, h5]] at h4
        exact h4
      · exact h7 x hx
    simp only [checkW] at h
    split at h
    · rename_i hc
      obtain ⟨sv, h1, h2, h3, h4⟩ := xLoad_loads hS h
      exact fin sv h1 (by rw [hc]; exact h4 w hS)
    · rename_i d hc
      obtain ⟨sv, h1, h2, h3, h4⟩ := xConvB_sound hS h
      exact fin sv h1 (by rw [hc]; exact fun w' he => h4 w' (hS.extend he))
theorem Loads.ext {P : Program} {t : TypeId} {x v : Value} {w w' : World} (h : Loads P t x v w) (he : Ext w w') : Loads P t x v w' := by
  obtain ⟨b, o, vs, h1, h2, h3⟩ := h
  refine ⟨b, o, vs, h1, fun j u hj => ?_, h3⟩
  have := h2 j u hj
  unfold World.cell? at this ⊢
  split at this
  · rename_i cs e fz hb
    rw [he.heap _ _ hb]
    exact this
  · cases this

theorem Reads.ext {P : Program} {t : TypeId} {c : Option TypeId} {x v : Value} {w w' : World} (h : Reads P t c x v w) (he : Ext w w') : Reads P t c x v w' := by
  cases c with
  | none => exact Loads.ext h he
  | some d => exact fun w'' he' => h w'' (he.trans he')

/-! ### All orders -/

def guardAt (ops : Array Oper) (T : Tm) (g : Option (Nat × Bool)) : Bool :=
  match g with
  | none => true
  | some (j, _) => (match dstOf ops j with
    | some t => (match nth T t with
      | .bool _ => true
      | .opq (.tuple _) => true
      | _ => false)
    | none => false)
/-- What may be done first: what only computes (0), a load (1). -/
def firstAt (P : Program) (ops : Array Oper) (T : Tm) (i : Nat) : Option Bool :=
  match ops[i]? with
  | some o => bif guardAt ops T o.guard then (match o.op with
      | .load .. => some true
      | .convert src dst x => (match kindOf P (.convert src dst x) with
        | .read => some true
        | .pure => some false
        | _ => none)
      | op => (match kindOf P op with
        | .pure => some false
        | _ => none))
    else none
  | none => none
def firstP (P : Program) (ops : Array Oper) (listed : Array Bool) (T : Tm) (ld : Bool) : List Nat → Option Nat
  | [] => none
  | i :: r => (match firstAt P ops T i with
    | some b => bif Bool.and (bif b then ld else !ld) (Region.free .any ops listed i) then some i else firstP P ops listed T ld r
    | none => firstP P ops listed T ld r)
theorem firstP_sound {P : Program} {ops : Array Oper} {listed : Array Bool} {T : Tm} {ld : Bool} {i : Nat} : ∀ {rs : List Nat}, firstP P ops listed T ld rs = some i → i ∈ rs ∧ Region.free .any ops listed i = true
  | [], h => (by cases h)
  | j :: r, h => by
    simp only [firstP] at h
    split at h
    · rename_i b hb
      cases hc : Bool.and (bif b then ld else !ld) (Region.free .any ops listed j) <;> rw [hc] at h
      · obtain ⟨h1, h2⟩ := firstP_sound h
        exact ⟨List.mem_cons_of_mem _ h1, h2⟩
      · obtain rfl : j = i := Option.some.inj h
        exact ⟨List.mem_cons_self, (Bool.and_eq_true_iff.1 hc).2⟩
    · obtain ⟨h1, h2⟩ := firstP_sound h
      exact ⟨List.mem_cons_of_mem _ h1, h2⟩

/-- Each of some. -/
def eachK : List Nat → (Nat → Prop) → Prop
  | [], _ => True
  | [i], f => f i
  | i :: r, f => f i ∧ eachK r f
theorem eachK_mem {f : Nat → Prop} : ∀ {l : List Nat}, eachK l f → ∀ i ∈ l, f i
  | [i], h, j, hj => by obtain rfl := List.mem_singleton.1 hj; exact h
  | i :: k :: r, h, j, hj => by
    rcases List.mem_cons.1 hj with rfl | hj
    · exact h.1
    · exact eachK_mem h.2 j hj

def xAny (C : Cfg) (call : Nat → SpecT) (ops : Array Oper) : Nat → List Wt → Array Bool → Tm → Hp → (Tm → Hp → Prop) → Prop
  | 0, _, listed, T, hp, K => (match Region.ready .any ops listed with
    | [] => K T hp
    | _ => False)
  | fuel + 1, W, listed, T, hp, K => (match Region.ready .any ops listed with
    | [] => K T hp
    | rs => (match firstP C.P ops listed T false rs with
      | some i => (match ops[i]? with
        | some o => guardK ops T o.guard
          (fun T => xPure C.P C.zt o.op (ev T) fun v => xAny C call ops fuel W (listed.setIfInBounds i true) (putT T o.dst v) hp K)
          (fun T => xAny C call ops fuel W (listed.setIfInBounds i true) (putT T o.dst (.opq undef)) hp K)
        | none => False)
      | none => (match firstP C.P ops listed T true rs with
        | some i => (match ops[i]? with
          | some o => guardK ops T o.guard
            (fun T' => (match o.op with
              | .load t a => xLoad C.P t (ev T' a) hp fun v => xAny C call ops fuel (⟨i, t, none, ev T' a, v⟩ :: W) (listed.setIfInBounds i true) (putT T' o.dst v) hp K
              | .convert src dst a => xConvB C.P src dst (ev T' a) hp fun v => xAny C call ops fuel (⟨i, src, some dst, ev T' a, v⟩ :: W) (listed.setIfInBounds i true) (putT T' o.dst v) hp K
              | _ => False))
            (fun T => xAny C call ops fuel W (listed.setIfInBounds i true) (putT T o.dst (.opq undef)) hp K)
          | none => False)
        | none => eachK rs fun i => (match ops[i]? with
          | some o => guardK ops T o.guard
            (fun T => xOper C call o.op (ev T) hp fun v hp' =>
              bif mildOp o.op then xAny C call ops fuel (aliveT ops i W) (listed.setIfInBounds i true) (putT T o.dst v) hp' K
              else checkW C.P hp' (aliveT ops i W) (xAny C call ops fuel (aliveT ops i W) (listed.setIfInBounds i true) (putT T o.dst v) hp' K))
            (fun T => xAny C call ops fuel (aliveT ops i W) (listed.setIfInBounds i true) (putT T o.dst (.opq undef)) hp K)
          | none => False))))

theorem wpC_done {ops : Array Oper} {P : Program} {Q : Exit → Act → World → Prop} {W : List Watch} {listed : Array Bool} {a : Act} {w : World} (hr : Region.ready .any ops listed = []) (h : Q .normal a w) :
    ∀ fuel, wpC P ops Q fuel W listed a w
  | 0 => ⟨hr, h⟩
  | _ + 1 => ⟨fun _ => h, by rw [hr]; simp⟩

/-- An operation with what its own world's sequel is. -/
theorem xOper_mild {P : Program} {o : Oper} {a : Act} {w : World} {next : Act → World → Prop} {Q : Exit → Act → World → Prop} (hm : mildOp o.op = true) (h : o.wp P a w next Q) :
    o.wp P a w (fun a' w' => next a' w' ∧ Ext w w') Q := by
  unfold Oper.wp at *
  cases hr : (execOp a.eval o).run P w with
  | ok n w' =>
    obtain ⟨he, v, rfl⟩ := mildOp_sound hm a.eval hr
    rw [hr] at h
    exact ⟨h, he⟩
  | halt x w' => rw [hr] at h; cases x <;> exact h

theorem xAny_sound (hC : CfgOk C) {call : Nat → SpecT} (hcall : CallOk C.P call) {ops : Array Oper} (hsel : Region.noSelect ops = true) {R : Act → World → Prop} : ∀ (fuel : Nat) (W : List Wt) (listed : Array Bool) (β : List Nat) (T : Tm) (hp : Hp) (a : Act) (w : World) (K : Tm → Hp → Prop),
    TOk β T a → Sat F β hp w → (∀ y ∈ W, y.wf β.length) → holdW (W.map (Wt.I C.P β)) w → xAny C call ops fuel W listed T hp K → (∀ a w, Post F β K a w → R a w) → wpC C.P ops (Qn R) fuel (W.map (Wt.I C.P β)) listed a w := by
  intro fuel
  induction fuel with
  | zero =>
    intro W listed β T hp a w K hT hS hW hH h hR
    simp only [xAny] at h
    split at h
    · rename_i hr
      exact wpC_done hr (hR _ _ ⟨[], T, hp, by simpa using hT, by simpa using hS, h⟩) 0
    · exact h.elim
  | succ fuel ih =>
    intro W listed β T hp a w K hT hS hW hH h hR
    simp only [xAny] at h
    split at h
    · rename_i hr
      exact wpC_done hr (hR _ _ ⟨[], T, hp, by simpa using hT, by simpa using hS, h⟩) _
    · rename_i rs hne
      have hal : ∀ i, holdW (alive ops i (W.map (Wt.I C.P β))) w := fun i x hx => hH x (List.mem_filter.1 hx).1
      -- what is done first, and is watched no more
      have first : ∀ (i : Nat) (o : Oper) (v : Value) (T' : Tm), ops[i]? = some o → i ∈ Region.ready .any ops listed → Region.free .any ops listed i = true → YI C.P ops o v (fun _ => True) a →
          TOk β T' (a.put o.dst v) → xAny C call ops fuel W (listed.setIfInBounds i true) T' hp K → wpC C.P ops (Qn R) (fuel + 1) (W.map (Wt.I C.P β)) listed a w := by
        intro i o v T' ho hmem hfree hy hT' hx
        refine wpC_first ho (Region.noSelect_spec hsel) (fun _ _ _ h => h) fuel _ listed a w (Region.free_spec ho hfree) hmem hy trivial (hal i) ?_
        refine wpC_sub fuel (fun x hx => ?_) (ih W _ β T' hp _ w K hT' hS hW hH hx hR)
        rcases List.mem_cons.1 hx with rfl | hx
        · exact .inr fun _ => trivial
        · exact .inl hx
      split at h
      · rename_i i hi
        obtain ⟨hmem, hfree⟩ := firstP_sound hi
        split at h
        · rename_i o ho
          obtain ⟨T', hT', hg⟩ := guardK_sound hT h
          rcases hg with ⟨hw, hr⟩ | ⟨hw, hs⟩
          · obtain ⟨sv, h1, h2, h3, h4⟩ := xPure_sound hC.z hT'.ev hr
            exact first i o _ _ ho hmem hfree (.inl ⟨hw, fun w _ => h4 w⟩) (hT'.put o.dst h2 h3) h1
          · exact first i o _ _ ho hmem hfree (.inr ⟨hw, rfl⟩) (hT'.put o.dst (x := .opq undef) rfl trivial) hs
        · exact h.elim
      · split at h
        · rename_i i hi
          obtain ⟨hmem, hfree⟩ := firstP_sound hi
          split at h
          · rename_i o ho
            obtain ⟨T', hT', hg⟩ := guardK_sound hT h
            rcases hg with ⟨hw, hr⟩ | ⟨hw, hs⟩
            · split at hr
              · rename_i t x hop
                obtain ⟨sv, h1, h2, h3, h4⟩ := xLoad_loads hS hr
                have hx := hT'.ev x
                refine wpC_first (v := sv.val β) (I := Reads C.P t none ((ev T' x).val β) (sv.val β)) ho (Region.noSelect_spec hsel) (fun _ _ _ h => h) fuel _ listed a w (Region.free_spec ho hfree) hmem
                  (.inl ⟨hw, fun w' hw' => ?_⟩) (h4 w hS) (hal i) ?_
                · simp only [execOp, hop, hx.2.2]
                  exact run_value (Loads.run hw')
                · have := ih (⟨i, t, none, ev T' x, sv⟩ :: W) (listed.setIfInBounds i true) β _ hp _ w K (hT'.put o.dst h2 h3) hS (fun y hy => ?_) (fun y hy => ?_) h1 hR
                  · exact this
                  · rcases List.mem_cons.1 hy with rfl | hy
                    · exact ⟨hx.2.1, h3⟩
                    · exact hW y hy
                  · rcases List.mem_cons.1 hy with rfl | hy
                    · exact h4 w hS
                    · exact hH y hy
              · rename_i t d x hop
                obtain ⟨sv, h1, h2, h3, h4⟩ := xConvB_sound hS hr
                have hx := hT'.ev x
                refine wpC_first (v := sv.val β) (I := Reads C.P t (some d) ((ev T' x).val β) (sv.val β)) ho (Region.noSelect_spec hsel) (fun _ _ _ h => h) fuel _ listed a w (Region.free_spec ho hfree) hmem
                  (.inl ⟨hw, fun w' hw' => ?_⟩) (fun w' he => h4 w' (hS.extend he)) (hal i) ?_
                · simp only [execOp, hop, hx.2.2]
                  exact run_value (hw' w' (Ext.refl _))
                · have := ih (⟨i, t, some d, ev T' x, sv⟩ :: W) (listed.setIfInBounds i true) β _ hp _ w K (hT'.put o.dst h2 h3) hS (fun y hy => ?_) (fun y hy => ?_) h1 hR
                  · exact this
                  · rcases List.mem_cons.1 hy with rfl | hy
                    · exact ⟨hx.2.1, h3⟩
                    · exact hW y hy
                  · rcases List.mem_cons.1 hy with rfl | hy
                    · exact fun w' he => h4 w' (hS.extend he)
                    · exact hH y hy
              · exact hr.elim
            · exact first i o _ _ ho hmem hfree (.inr ⟨hw, rfl⟩) (hT'.put o.dst (x := .opq undef) rfl trivial) hs
          · exact h.elim
        · refine ⟨fun h0 => absurd h0 hne, fun i hi => ?_⟩
          have h' := eachK_mem h i hi
          have hWa : ∀ y ∈ aliveT ops i W, y.wf β.length := fun y hy => hW y (aliveT_mem hy)
          rw [aliveT_map]
          have hal' := hal i
          rw [aliveT_map] at hal'
          split at h'
          · rename_i o ho
            obtain ⟨T', hT', hg⟩ := guardK_sound hT h'
            unfold wpOp
            rw [ho]
            simp only
            rcases hg with ⟨hw, hr⟩ | ⟨hw, hs⟩
            · rw [if_pos hw]
              refine .inl ?_
              cases hm : mildOp o.op <;> rw [hm] at hr
              · refine xOper_sound hC hcall hS hT'.ev hr fun v w' hy => ?_
                obtain ⟨γ, sv, hp', k1, k2, k3, rfl, k5⟩ := hy
                have hW' : ∀ y ∈ aliveT ops i W, y.wf (β ++ γ).length := fun y hy => ⟨SV.wf_mono (by simp) _ (hWa y hy).1, SV.wf_mono (by simp) _ (hWa y hy).2⟩
                obtain ⟨c1, c2⟩ := checkW_sound k1 k5
                have := ih (aliveT ops i W) _ (β ++ γ) _ hp' (a.put o.dst (sv.val (β ++ γ))) w' K ((hT'.append (γ := γ)).put o.dst k2 k3) k1 hW' c1 c2 fun a w h => hR a w h.later
                rw [map_append hWa] at c1 this
                exact ⟨c1, this⟩
              · have := xOper_mild (next := fun a' w' => ∃ v, a' = a.put o.dst v ∧ Yld F β (fun sv hp' => xAny C call ops fuel (aliveT ops i W) (listed.setIfInBounds i true) (putT T' o.dst sv) hp' K) v w') (Q := Qn R) hm
                  (xOper_sound hC hcall hS hT'.ev hr fun v w' hy => ⟨v, rfl, hy⟩)
                refine Oper.wp_mono ?_ this
                rintro _ w' ⟨⟨v, rfl, γ, sv, hp', k1, k2, k3, rfl, k5⟩, he⟩
                have hW' : ∀ y ∈ aliveT ops i W, y.wf (β ++ γ).length := fun y hy => ⟨SV.wf_mono (by simp) _ (hWa y hy).1, SV.wf_mono (by simp) _ (hWa y hy).2⟩
                have c1 : holdW ((aliveT ops i W).map (Wt.I C.P β)) w' := fun x hx => by
                  have := hal' x hx
                  obtain ⟨y, _, rfl⟩ := List.mem_map.1 hx
                  exact this.ext he
                have := ih (aliveT ops i W) _ (β ++ γ) _ hp' (a.put o.dst (sv.val (β ++ γ))) w' K ((hT'.append (γ := γ)).put o.dst k2 k3) k1 hW' (by rw [map_append hWa]; exact c1) k5 fun a w h => hR a w h.later
                rw [map_append hWa] at this
                exact ⟨c1, this⟩
            · rw [if_neg (by rw [hw]; simp)]
              exact ⟨hal', ih _ _ β _ hp _ w K (hT'.put o.dst (x := .opq undef) rfl trivial) hS hWa hal' hs hR⟩
          · exact h'.elim

/-! ### A region -/
inductive DrawBy where
  | quiet
  | tail (n : Nat)
  | any
def quietAll (C : Cfg) : List Oper → Bool
  | [] => true
  | o :: r => (match kindOf C.P o.op with
    | .pure | .read => true
    | .act => false
    | .call => isQ C.qs o.op) && quietAll C r
def headN (P : Program) : List Oper → Nat → Nat
  | [], n => n
  | o :: r, n => (match kindOf P o.op with
    | .pure | .read => headN P r (n + 1)
    | _ => n)
def drawBy (C : Cfg) (ops : Array Oper) : DrawBy :=
  bif quietAll C ops.toList && Region.lexB .any ops then .quiet
  else (let n := headN C.P ops.toList 0
    bif Region.lexTailB .any ops n then .tail n else .any)

def xRegion (C : Cfg) (call : Nat → SpecT) (ops : Array Oper) (draw : Bool) (T : Tm) (hp : Hp) (K : Tm → Hp → Prop) : Prop :=
  bif draw then (match drawBy C ops with
    | .quiet => bif Region.lexB .any ops then xQops C ops ops.toList T hp fun T => K T hp else False
    | .tail n => bif Region.lexTailB .any ops n then xSops C ops (ops.toList.take n) T hp fun T => xOps C call ops (ops.toList.drop n) T hp K else False
    | .any => bif Region.noSelect ops then xAny C call ops ops.size [] (Array.replicate ops.size false) T hp K else False)
  else xOps C call ops ops.toList T hp K

theorem xRegion_sound (hC : CfgOk C) {call : Nat → SpecT} (hcall : CallOk C.P call) {id : Nat} {ops : Array Oper} {draw : Bool} {T : Tm} {a : Act} {K : Tm → Hp → Prop} {R : Act → World → Prop} (hT : TOk β T a) (hS : Sat F β hp w)
    (h : xRegion C call ops draw T hp K) (hR : ∀ a w, Post F β K a w → R a w) : (Code.region id ops draw).wp C.P (Qn R) a w := by
  unfold xRegion at h
  have hS' : Sat F β hp { w with drawn := w.drawn + 1 } := hS.drew _
  cases draw
  · refine wp_region ?_
    have := xOps_sound (R := R) hC hcall ops.toList β T hp a w K hT hS h hR
    have heq := wpOps_eq_wpList (P := C.P) (Q := Qn R) (ops := ops) ops.toList 0 (fun j => by simp)
    rw [List.range_eq_range', show ops.size = ops.toList.length from by simp, heq]
    exact this
  · simp only [cond_true] at h
    split at h
    · cases hb : Region.lexB .any ops <;> rw [hb] at h
      · exact h.elim
      · refine wp_region_quiet (C := Ext { w with drawn := w.drawn + 1 }) hC.mixed hb (Ext.refl _) ?_
        exact xQops_sound hC hS' ops.toList T a _ hT h fun T' a' hT' hK w' hw' => hR _ _ ⟨[], T', hp, by simpa using hT', by simpa using hS'.extend hw', hK⟩
    · rename_i n _
      cases hb : Region.lexTailB .any ops n <;> rw [hb] at h
      · exact h.elim
      · have := wp_region_still_tail (P := C.P) (id := id) (Q := Qn R) (a := a) (w := w) (l := ops.toList) n hC.mixed (by simpa using hb) ?_
        · simpa using this
        · have := xSops_sound (ops := ops.toList.toArray) hC hS' (R := fun a' => wpList C.P ops.toList.toArray (Qn R) (ops.toList.drop n) a' { w with drawn := w.drawn + 1 }) (ops.toList.take n) T a _ hT (by simpa using h)
            (fun T' a' hT' hK => xOps_sound hC hcall _ β T' hp a' _ K hT' hS' (by simpa using hK) hR)
          exact this
    · cases hb : Region.noSelect ops <;> rw [hb] at h
      · exact h.elim
      · exact wp_region_any hC.mixed (wpC_any _ (xAny_sound hC hcall hb _ [] _ β T hp a _ K hT hS' (fun y hy => (by cases hy)) (fun x hx => (by cases hx)) h hR))
end
end Vx
end
section
/- Code, loops, functions. -/
namespace Vx
open Go

inductive XE where
  | normal
  | exit (id : Nat)
  | ret
abbrev KT := XE → Tm → Hp → Prop
abbrev BodyT := Tm → Hp → KT → Prop

/-- What is asked of an ending. -/
def QK (F : Fr) (β : List Nat) (K : KT) : Exit → Act → World → Prop
  | .normal, a, w => Post F β (K .normal) a w
  | .exit id, a, w => Post F β (K (.exit id)) a w
  | .ret, a, w => Post F β (K .ret) a w
  | _, _, _ => False

theorem QK.later {F : Fr} {β γ : List Nat} {K : KT} {e : Exit} {a : Act} {w : World} (h : QK F (β ++ γ) K e a w) : QK F β K e a w := by
  cases e <;> first | exact Post.later h | exact h

/-- A code's symbolic twin says what is so. -/
def BodyOk (P : Program) (c : Code) (bx : BodyT) : Prop :=
  ∀ (F : Fr) (β : List Nat) (T : Tm) (hp : Hp) (a : Act) (w : World) (K : KT), TOk β T a → Sat F β hp w → bx T hp K → c.wp P (QK F β K) a w
/-- A way to go round. -/
abbrev LoopT := BodyT → BodyT
def LoopOk (P : Program) (L : LoopT) : Prop := ∀ c bx, BodyOk P c bx → BodyOk P (.loop c) (L bx)

/-- Round and round, at most so often. -/
def iter (bx : BodyT) : Nat → BodyT
  | 0, _, _, _ => False
  | n + 1, T, hp, K => bx T hp fun e T' hp' => (match e with
    | .normal => iter bx n T' hp' K
    | e => K e T' hp')

theorem iter_rounds {P : Program} {c : Code} {bx : BodyT} (hb : BodyOk P c bx) (F : Fr) (K : KT) : ∀ (n : Nat) (β : List Nat) (T : Tm) (hp : Hp) (a : Act) (w : World),
    TOk β T a → Sat F β hp w → iter bx n T hp K → ∀ (Q : Exit → Act → World → Prop), (∀ e a w, QK F β K e a w → Q e a w) → Code.rounds P c Q n a w
  | 0, β, T, hp, a, w, _, _, h, Q, _ => h.elim
  | n + 1, β, T, hp, a, w, hT, hS, h, Q, hQ => by
    show c.wp P (Exit.then (Code.rounds P c Q n) Q) a w
    refine wp_mono (hb F β T hp a w _ hT hS h) fun e a' w' hq => ?_
    cases e with
    | normal =>
      obtain ⟨γ, T', hp', h1, h2, h3⟩ := hq
      exact iter_rounds hb F K n (β ++ γ) T' hp' a' w' h1 h2 h3 Q fun e a w h => hQ e a w h.later
    | exit id =>
      obtain ⟨γ, T', hp', h1, h2, h3⟩ := hq
      exact hQ (.exit id) a' w' ⟨γ, T', hp', h1, h2, h3⟩
    | ret =>
      obtain ⟨γ, T', hp', h1, h2, h3⟩ := hq
      exact hQ .ret a' w' ⟨γ, T', hp', h1, h2, h3⟩
    | goto l => exact hq.elim
    | panic c => exact hq.elim
    | outgrown => exact hq.elim
theorem iter_ok (P : Program) (n : Nat) : LoopOk P fun bx => iter bx n := by
  intro c bx hb F β T hp a w K hT hS h
  exact wp_loop_rounds n (iter_rounds hb F K n β T hp a w hT hS h _ fun _ _ _ h => h)

/-- How the loops of a block are gone round; what is done with a region as a whole. -/
structure Ways where
  loop : Nat → LoopT
  reg : Nat → LoopT := fun _ bx => bx
/-- A way to see a piece of code. -/
def PieceOk (P : Program) (L : LoopT) : Prop := ∀ c bx, BodyOk P c bx → BodyOk P c (L bx)
structure WaysOk (P : Program) (W : Ways) : Prop where
  loop : ∀ b, LoopOk P (W.loop b)
  reg : ∀ i, PieceOk P (W.reg i)
def xCode (C : Cfg) (call : Nat → SpecT) (L : Ways) : Nat → Code → BodyT
  | _, .skip => fun T hp K => K .normal T hp
  | _, .region id ops draw => L.reg id fun T hp K => xRegion C call ops draw T hp (K .normal)
  | b, .seq x y => fun T hp K => xCode C call L b x T hp fun e T' hp' => (match e with
    | .normal => xCode C call L b y T' hp' K
    | e => K e T' hp')
  | b, .cond c x y => fun T hp K => (match ev T c with
    | .bool (.lit t) => bif t then xCode C call L b x T hp K else xCode C call L b y T hp K
    | .bool (.v t) => (t = true → xCode C call L b x T hp K) ∧ (t = false → xCode C call L b y T hp K)
    | _ => False)
  | _, .block id x => fun T hp K => xCode C call L id x T hp fun e T' hp' => (match e with
    | .exit j => bif Nat.beq j id then K .normal T' hp' else K (.exit j) T' hp'
    | e => K e T' hp')
  | b, .loop x => L.loop b (xCode C call L b x)
  | _, .exit id => fun T hp K => K (.exit id) T hp
  | _, .ret => fun T hp K => K .ret T hp
  | _, .label _ => fun T hp K => K .normal T hp
  | _, _ => fun _ _ _ => False

theorem xCode_ok {C : Cfg} (hC : CfgOk C) {call : Nat → SpecT} (hcall : CallOk C.P call) {L : Ways} (hL : WaysOk C.P L) (c : Code) : ∀ b, BodyOk C.P c (xCode C call L b c) := by
  induction c with
  | skip => intro b F β T hp a w K hT hS h; exact wp_skip ⟨[], T, hp, by simpa using hT, by simpa using hS, h⟩
  | label l => intro b F β T hp a w K hT hS h; exact wp_label ⟨[], T, hp, by simpa using hT, by simpa using hS, h⟩
  | exit id => intro b F β T hp a w K hT hS h; exact wp_exit ⟨[], T, hp, by simpa using hT, by simpa using hS, h⟩
  | ret => intro b F β T hp a w K hT hS h; exact wp_ret ⟨[], T, hp, by simpa using hT, by simpa using hS, h⟩
  | region id ops draw =>
    intro b
    refine hL.reg id _ _ ?_
    intro F β T hp a w K hT hS h
    refine wp_mono (xRegion_sound (R := Post F β (K .normal)) hC hcall hT hS h fun _ _ h => h) fun e a w hq => ?_
    cases e <;> first | exact hq | exact hq.elim
  | seq x y ihx ihy =>
    intro b F β T hp a w K hT hS h
    refine wp_seq (wp_mono (ihx b F β T hp a w _ hT hS h) fun e a' w' hq => ?_)
    cases e with
    | normal =>
      obtain ⟨γ, T', hp', h1, h2, h3⟩ := hq
      exact wp_mono (ihy b F (β ++ γ) T' hp' a' w' K h1 h2 h3) fun _ _ _ h => h.later
    | exit id => exact hq
    | ret => exact hq
    | goto l => exact hq.elim
    | panic c => exact hq.elim
    | outgrown => exact hq.elim
  | cond c x y ihx ihy =>
    intro b F β T hp a w K hT hS h
    have hc := (hT.ev c).2.2
    simp only [xCode] at h
    split at h
    · rename_i t ht
      rw [ht] at hc
      refine wp_cond (t := t) hc ?_
      cases t
      · exact ihy b F β T hp a w K hT hS h
      · exact ihx b F β T hp a w K hT hS h
    · rename_i t ht
      rw [ht] at hc
      refine wp_cond (t := t) hc ?_
      cases t
      · exact ihy b F β T hp a w K hT hS (h.2 rfl)
      · exact ihx b F β T hp a w K hT hS (h.1 rfl)
    · exact h.elim
  | block id x ih =>
    intro b F β T hp a w K hT hS h
    refine wp_block (wp_mono (ih id F β T hp a w _ hT hS h) fun e a' w' hq => ?_)
    cases e with
    | normal => exact hq
    | exit j =>
      obtain ⟨γ, T', hp', h1, h2, h3⟩ := hq
      simp only at h3
      simp only [Exit.inBlock]
      cases hb : Nat.beq j id <;> rw [hb] at h3
      · rw [if_neg (beq_f hb)]
        exact ⟨γ, T', hp', h1, h2, h3⟩
      · rw [if_pos (beq_t hb)]
        exact ⟨γ, T', hp', h1, h2, h3⟩
    | ret => exact hq
    | goto l => exact hq.elim
    | panic c => exact hq.elim
    | outgrown => exact hq.elim
  | loop x ih => exact fun b => hL.loop b x _ (ih b)
  | _ => intro b F β T hp a w K hT hS h; exact h.elim

/-! ### Functions -/

/-- The results of a function. -/
def resAll (P : Program) (T : Tm) (hp : Hp) : List ResultVar → (List SV → Prop) → Prop
  | [], K => K []
  | .tmp t :: r, K => resAll P T hp r fun l => K (nth T t :: l)
  | .cell a ty :: r, K => xLoad P ty (nth T a) hp fun v => resAll P T hp r fun l => K (v :: l)
def rowOf : List SV → SV
  | [] => .nil
  | x :: r => .cons x (rowOf r)
def resVal : List SV → SV
  | [x] => x
  | l => .tup (rowOf l)

section
variable {P : Program} {F : Fr} {β : List Nat} {hp : Hp} {w : World}
theorem rowOf_ok : ∀ l : List SV, (∀ x ∈ l, x.one = true ∧ x.wf β.length) → (rowOf l).wf β.length ∧ (rowOf l).vals β = l.map (SV.val β)
  | [], _ => ⟨trivial, rfl⟩
  | x :: r, h => by
    obtain ⟨h1, h2⟩ := rowOf_ok r fun y hy => h y (List.mem_cons_of_mem _ hy)
    obtain ⟨g1, g2⟩ := h x List.mem_cons_self
    exact ⟨⟨g2, h1⟩, by simp [rowOf, SV.vals, SV.vals_one β g1, h2]⟩

def resOne (tmps : Array Value) : ResultVar → Sem Value
  | .tmp t => pure (tmps.getD t undef)
  | .cell a t => do loadVar t (← asAddr (tmps.getD a undef))

theorem resAll_sound (hS : Sat F β hp w) {T : Tm} {a : Act} (hT : TOk β T a) : ∀ (l : List ResultVar) (K : List SV → Prop), resAll P T hp l K →
    ∃ xs, K xs ∧ (∀ x ∈ xs, x.one = true ∧ x.wf β.length) ∧ (l.mapM (resOne a.tmps)).run P w = .ok (xs.map (SV.val β)) w
  | [], K, h => ⟨[], h, fun x hx => (by cases hx), rfl⟩
  | .tmp t :: r, K, h => by
    obtain ⟨xs, h1, h2, h3⟩ := resAll_sound hS hT r _ h
    obtain ⟨g1, g2, g3⟩ := hT.ev (.tmp t)
    refine ⟨_, h1, fun x hx => ?_, ?_⟩
    · rcases List.mem_cons.1 hx with rfl | hx
      · exact ⟨g1, g2⟩
      · exact h2 x hx
    · rw [List.mapM_cons]
      have hr : resOne a.tmps (.tmp t) = pure (a.eval (.tmp t)) := rfl
      rw [hr, g3]
      simp [h3, ev]
  | .cell b ty :: r, K, h => by
    obtain ⟨v, h1, h2, h3, h4⟩ := xLoad_sound hS h
    obtain ⟨xs, k1, k2, k3⟩ := resAll_sound hS hT r _ h1
    refine ⟨_, k1, fun x hx => ?_, ?_⟩
    · rcases List.mem_cons.1 hx with rfl | hx
      · exact ⟨h2, h3⟩
      · exact k2 x hx
    · rw [List.mapM_cons]
      have h5 := h4 w hS
      have h6 := (hT.ev (.tmp b)).2.2
      have hr : (resOne a.tmps (.cell b ty)).run P w = .ok (v.val β) w := by
        simp only [Act.eval, ev] at h6
        simp only [resOne, h6]
        simp only [resAll] at h
        unfold xLoad at h
        split at h
        · rename_i b' o hn
          rw [hn] at h5 ⊢
          exact h5
        · rename_i id off hn
          rw [hn] at h5 ⊢
          exact h5
        · exact h.elim
      simp [hr, k3]

def resV : List Value → Value
  | [x] => x
  | l => .tuple l.toArray
theorem run_results {fn : Func} {tmps : Array Value} {vs : List Value} (h : (fn.results.toList.mapM (resOne tmps)).run P w = .ok vs w) :
    (results fn tmps).run P w = .ok (resV vs) w := by
  unfold results
  rw [Array.mapM_eq_mapM_toList]
  show (do
    let vs ← List.toArray <$> fn.results.toList.mapM (resOne tmps)
    pure (if h : vs.size = 1 then vs[0] else .tuple vs) : Sem Value).run P w = _
  simp only [Sem.run_bind, Sem.run_map, h, Result.andThen_ok, Sem.run_pure]
  congr 1
  match vs with
  | [] => rfl
  | [x] => rfl
  | x :: y :: r => simp [resV]

theorem resVal_ok (xs : List SV) (h : ∀ x ∈ xs, x.one = true ∧ x.wf β.length) :
    (resVal xs).one = true ∧ (resVal xs).wf β.length ∧ resV (xs.map (SV.val β)) = (resVal xs).val β := by
  match xs with
  | [] => exact ⟨rfl, trivial, rfl⟩
  | [x] => exact ⟨(h x (by simp)).1, (h x (by simp)).2, rfl⟩
  | x :: y :: r =>
    obtain ⟨h1, h2⟩ := rowOf_ok (x :: y :: r) h
    refine ⟨rfl, h1, ?_⟩
    show _ = Value.tuple ((rowOf (x :: y :: r)).vals β).toArray
    rw [h2]
    rfl
end

/-- The temporaries at a function's beginning. -/
def argsT : Nat → List SV → List (Nat × SV)
  | _, [] => []
  | i, x :: r => (i, x) :: argsT (i + 1) r
def pad (args : List SV) (n : Nat) : Tm := ⟨max n args.length, argsT 0 args, fun _ => undef⟩
theorem look_argsT : ∀ (args : List SV) (i t : Nat), look (fun _ => undef) t (argsT i args) = if i ≤ t then (args[t - i]?).getD (.opq undef) else .opq undef
  | [], i, t => by simp [argsT, look]
  | x :: r, i, t => by
    simp only [argsT, look]
    by_cases h : i = t
    · subst h; rw [beq_self]; simp
    · rw [beq_ne h, cond_false, look_argsT r (i + 1) t]
      by_cases h2 : i ≤ t
      · rw [if_pos (by omega), if_pos h2]
        obtain ⟨k, rfl⟩ : ∃ k, t = i + 1 + k := ⟨t - (i + 1), by omega⟩
        rw [show i + 1 + k - (i + 1) = k by omega, show i + 1 + k - i = k + 1 by omega]
        rfl
      · rw [if_neg (by omega), if_neg h2]

/-- A function's symbolic twin: its body, on its arguments. -/
def xFun (C : Cfg) (call : Nat → SpecT) (L : Ways) (fn : Func) (c : Code) : SpecT := fun args hp K =>
  xCode C call L 0 c (pad args fn.ntmps) hp fun e T hp' => (match e with
    | .exit _ => False
    | _ => resAll C.P T hp' fn.results.toList fun l => K (resVal l) hp')

theorem xFun_sound {C : Cfg} (hC : CfgOk C) {call : Nat → SpecT} (hcall : CallOk C.P call) {L : Ways} (hL : WaysOk C.P L) {f : FuncId} {fn : Func} {c : Code} (hf : C.P.funcs[f]? = some fn) (hb : fn.body = some c)
    {args : List SV} {hp : Hp} {K : SV → Hp → Prop} (h : xFun C call L fn c args hp K) {F : Fr} {β : List Nat} {w : World} (hS : Sat F β hp w) (ha : ∀ x ∈ args, x.one = true ∧ x.wf β.length) :
    Calls C.P f (args.map (SV.val β)).toArray w (fun e w' => ∃ v, e = .returned v ∧ Yld F β K v w') := by
  refine calls_of_wp hf hb ?_
  have hT : TOk β (pad args fn.ntmps) { tmps := (args.map (SV.val β)).toArray ++ Array.replicate (fn.ntmps - (args.map (SV.val β)).toArray.size) undef, defers := [] } := by
    have hl : ∀ t, look (fun _ => undef) t (argsT 0 args) = (args[t]?).getD (.opq undef) := fun t => by rw [look_argsT]; simp
    refine ⟨?_, ?_, ?_, rfl⟩
    · simp [pad]; omega
    · intro t ht
      simp only [pad] at ht ⊢
      rw [hl]
      rcases Nat.lt_or_ge t args.length with h1 | h1
      · rw [Array.getElem?_append_left (by simpa using h1)]
        simp [h1]
      · have h2 : args[t]? = none := List.getElem?_eq_none h1
        rw [h2]
        simp [Array.getElem?_append, Array.getElem?_replicate, Nat.not_lt.2 h1]
        exact ⟨by omega, rfl⟩
    · intro t
      simp only [pad]
      rw [hl]
      cases hx : args[t]? with
      | none => exact ⟨rfl, trivial⟩
      | some x => exact ha x (List.mem_of_getElem? hx)
  refine wp_mono (xCode_ok hC hcall hL c 0 F β _ hp _ w _ hT hS h) fun e a w' hq => ?_
  have fin : Post F β (fun T hp' => resAll C.P T hp' fn.results.toList fun l => K (resVal l) hp') a w' → a.defers = [] ∧ ∃ v, (results fn a.tmps).run C.P w' = .ok v w' ∧ ∃ v', Ending.returned v = .returned v' ∧ Yld F β K v' w' := by
    rintro ⟨γ, T, hp', h1, h2, h3⟩
    obtain ⟨xs, k1, k2, k3⟩ := resAll_sound h2 h1 _ _ h3
    obtain ⟨r1, r2, r3⟩ := resVal_ok xs k2
    exact ⟨h1.defers, _, run_results k3, _, rfl, γ, _, hp', h2, r1, r2, r3, k1⟩
  cases e with
  | normal => exact fin hq
  | ret => exact fin hq
  | exit id =>
    obtain ⟨_, _, _, _, _, h3⟩ := hq
    exact h3.elim
  | goto l => exact hq.elim
  | panic c => exact hq.elim
  | outgrown => exact hq.elim

/-! ### Functions that are laid out where they are called -/

def noCall : Nat → SpecT := fun _ _ _ _ => False
def bodyOf (P : Program) (f : Nat) : Option (Func × Code) :=
  match P.funcs[f]? with
  | some fn => (match fn.body with
    | some c => some (fn, c)
    | none => none)
  | none => none
/-- Calls by their twins where there is one; the others are laid out, so deep. -/
def callD (C : Cfg) (call : Nat → SpecT) (L : Nat → Ways) (inl : Nat → Bool) : Nat → Nat → SpecT
  | 0, f => call f
  | d + 1, f => bif inl f then (match bodyOf C.P f with
      | some (fn, c) => xFun C (callD C call L inl d) (L f) fn c
      | none => fun _ _ _ => False)
    else call f

theorem callD_ok {C : Cfg} (hC : CfgOk C) {call : Nat → SpecT} (hcall : CallOk C.P call) {L : Nat → Ways} (hL : ∀ f, WaysOk C.P (L f)) {inl : Nat → Bool} (hi : ∀ f, inl f = true → ∀ vs w, (callFunc f vs).run C.P w = .ok (.enter f vs) w) :
    ∀ d, CallOk C.P (callD C call L inl d)
  | 0 => hcall
  | d + 1 => by
    intro f
    cases hf : inl f
    · have e : callD C call L inl (d + 1) f = call f := by simp only [callD, hf, cond_false]
      rw [e]; exact hcall f
    · refine .inl fun args hp K h => ⟨hi f hf, fun F β w hS ha => ?_⟩
      simp only [callD, hf, cond_true] at h
      cases hb : bodyOf C.P f with
      | none => rw [hb] at h; exact h.elim
      | some fc =>
        rw [hb] at h
        obtain ⟨fn, c⟩ := fc
        unfold bodyOf at hb
        split at hb
        · rename_i fn' hfn
          split at hb
          · rename_i c' hc'
            cases hb
            exact xFun_sound hC (callD_ok hC hcall hL hi d) (hL f) hfn hc' h hS ha
          · cases hb
        · cases hb
theorem callD_spec {C : Cfg} (hC : CfgOk C) {call : Nat → SpecT} (hcall : CallOk C.P call) {L : Nat → Ways} (hL : ∀ f, WaysOk C.P (L f)) {inl : Nat → Bool} (hi : ∀ f, inl f = true → ∀ vs w, (callFunc f vs).run C.P w = .ok (.enter f vs) w)
    (d : Nat) {f : Nat} (hf : inl f = true) : SpecOk C.P f (callD C call L inl (d + 1) f) := by
  refine fun args hp K h => ⟨hi f hf, fun F β w hS ha => ?_⟩
  simp only [callD, hf, cond_true] at h
  cases hb : bodyOf C.P f with
  | none => rw [hb] at h; exact h.elim
  | some fc =>
    rw [hb] at h
    obtain ⟨fn, c⟩ := fc
    unfold bodyOf at hb
    split at hb
    · rename_i fn' hfn
      split at hb
      · rename_i c' hc'
        cases hb
        exact xFun_sound hC (callD_ok hC hcall hL hi d) (hL f) hfn hc' h hS ha
      · cases hb
    · cases hb
end Vx
end
section
/- Other names for blocks; what a part of the code does not touch. -/
namespace Vx
open Go

/-! ### Other names -/

def SV.ren (ρ : Nat → Nat) : SV → SV
  | .ptr id o => .ptr (ρ id) o
  | .slice id o l c => .slice (ρ id) o l c
  | .map id => .map (ρ id)
  | .fn f caps => .fn f (caps.ren ρ)
  | .iface t v => .iface t (v.ren ρ)
  | .agg l => .agg (l.ren ρ)
  | .tup l => .tup (l.ren ρ)
  | .cons h t => .cons (h.ren ρ) (t.ren ρ)
  | x => x
/-- The new names mean what the old ones meant. -/
def Means (ρ : Nat → Nat) (β δ : List Nat) : Prop := ∀ id, id < β.length → ρ id < δ.length ∧ blk δ (ρ id) = blk β id
section
variable {ρ : Nat → Nat} {β δ : List Nat}
theorem SV.ren_vals (hm : Means ρ β δ) : ∀ x : SV, x.wf β.length → (x.ren ρ).vals δ = x.vals β ∧ (x.ren ρ).wf δ.length
  | .ptr id o, h => ⟨by simp [SV.ren, SV.vals, (hm id h).2], (hm id h).1⟩
  | .slice id o l c, h => ⟨by simp [SV.ren, SV.vals, (hm id h).2], (hm id h).1⟩
  | .map id, h => ⟨by simp [SV.ren, SV.vals, (hm id h).2], (hm id h).1⟩
  | .fn f caps, h => ⟨by simp [SV.ren, SV.vals, (SV.ren_vals hm caps h).1], (SV.ren_vals hm caps h).2⟩
  | .iface t v, h => ⟨by simp [SV.ren, SV.vals, (SV.ren_vals hm v h).1], (SV.ren_vals hm v h).2⟩
  | .agg l, h => ⟨by simp [SV.ren, SV.vals, (SV.ren_vals hm l h).1], (SV.ren_vals hm l h).2⟩
  | .tup l, h => ⟨by simp [SV.ren, SV.vals, (SV.ren_vals hm l h).1], (SV.ren_vals hm l h).2⟩
  | .cons a b, h => ⟨by simp [SV.ren, SV.vals, (SV.ren_vals hm a h.1).1, (SV.ren_vals hm b h.2).1], (SV.ren_vals hm a h.1).2, (SV.ren_vals hm b h.2).2⟩
  | .run .., h => ⟨rfl, h⟩
  | .blob .., h => ⟨rfl, h⟩
  | .int .., _ => ⟨rfl, trivial⟩
  | .bool .., _ => ⟨rfl, trivial⟩
  | .str .., _ => ⟨rfl, trivial⟩
  | .nilptr, _ => ⟨rfl, trivial⟩
  | .nilslice, _ => ⟨rfl, trivial⟩
  | .nilmap, _ => ⟨rfl, trivial⟩
  | .opq .., _ => ⟨rfl, trivial⟩
  | .nil, _ => ⟨rfl, trivial⟩
  | .gsl .., _ => ⟨rfl, trivial⟩
  | .gptr .., _ => ⟨rfl, trivial⟩
theorem SV.ren_val (hm : Means ρ β δ) (x : SV) (h : x.wf β.length) : (x.ren ρ).val δ = x.val β := by
  simp [SV.val, (SV.ren_vals hm x h).1]
theorem SV.ren_one (ρ : Nat → Nat) (x : SV) : (x.ren ρ).one = x.one := by cases x <;> rfl

def entR (ρ : Nat → Nat) (e : SV × SV × Nat) : SV × SV × Nat := (e.1.ren ρ, e.2.1.ren ρ, e.2.2)
def SObj.ren (ρ : Nat → Nat) : SObj → SObj
  | .cells l e z => .cells (l.ren ρ) e z
  | .map es c => .map (es.map (entR ρ)) c
  | .other o => .other o
  | .pmap k ps c => .pmap k ps c
theorem SObj.ren_den (hm : Means ρ β δ) (o : SObj) (h : o.wf β.length) : (o.ren ρ).den δ = o.den β ∧ (o.ren ρ).wf δ.length := by
  cases o with
  | cells l e z => exact ⟨by simp [SObj.ren, SObj.den, (SV.ren_vals hm l h).1], (SV.ren_vals hm l h).2⟩
  | map es c =>
    refine ⟨?_, fun e he => ?_⟩
    · simp only [SObj.ren, SObj.den, List.map_map]
      rw [List.map_congr_left (f := entD δ ∘ entR ρ) (g := entD β)]
      intro e he
      obtain ⟨h1, h2⟩ := h e he
      simp [entD, entR, SV.ren_val hm _ h1, SV.ren_val hm _ h2]
    · obtain ⟨e', he', rfl⟩ := List.mem_map.1 he
      obtain ⟨h1, h2⟩ := h e' he'
      exact ⟨(SV.ren_vals hm _ h1).2, (SV.ren_vals hm _ h2).2⟩
  | other o => exact ⟨rfl, trivial⟩
  | pmap k ps c => exact ⟨rfl, trivial⟩

def renL (ρ : Nat → Nat) : List (Nat × SV) → List (Nat × SV)
  | [] => []
  | (t, x) :: r => (t, x.ren ρ) :: renL ρ r
def renT (ρ : Nat → Nat) (T : Tm) : Tm := ⟨T.n, renL ρ T.l, T.d⟩
theorem look_renL (ρ : Nat → Nat) (d : Nat → Value) (t : Nat) : ∀ l, look d t (renL ρ l) = (look d t l).ren ρ
  | [] => rfl
  | (j, x) :: r => by
    simp only [renL, look]
    cases Nat.beq j t
    · exact look_renL ρ d t r
    · rfl
theorem TOk.ren (hm : Means ρ β δ) {T : Tm} {a : Act} (h : TOk β T a) : TOk δ (renT ρ T) a :=
  ⟨h.size, fun t ht => by
    show a.tmps[t]? = some ((look T.d t (renL ρ T.l)).val δ)
    rw [look_renL, SV.ren_val hm _ (h.ok t).2]; exact h.tmps t ht,
   fun t => by
    show (look T.d t (renL ρ T.l)).one = true ∧ (look T.d t (renL ρ T.l)).wf δ.length
    rw [look_renL, SV.ren_one]; exact ⟨(h.ok t).1, (SV.ren_vals hm _ (h.ok t).2).2⟩, h.defers⟩

def renH (ρ : Nat → Nat) : List (Nat × Option SObj) → List (Nat × Option SObj)
  | [] => []
  | (i, some o) :: r => (ρ i, some (o.ren ρ)) :: renH ρ r
  | (i, none) :: r => (ρ i, none) :: renH ρ r
/-- Blocks that are gone. -/
def goneH : List Nat → List (Nat × Option SObj) → List (Nat × Option SObj)
  | [], H => H
  | i :: r, H => (i, none) :: goneH r H

theorem getH_renH {k : Nat} {o : SObj} : ∀ {H : List (Nat × Option SObj)}, getH k (renH ρ H) = some o → ∃ i o', ρ i = k ∧ getH i H = some o' ∧ o = o'.ren ρ
  | [], h => (by cases h)
  | (j, some x) :: r, h => by
    simp only [renH, getH] at h
    cases hb : Nat.beq (ρ j) k <;> rw [hb] at h
    · obtain ⟨i, o', h1, h2, h3⟩ := getH_renH h
      refine ⟨i, o', h1, ?_, h3⟩
      have hji : j ≠ i := fun e => by subst e; exact beq_f hb h1
      rw [getH_ne hji]; exact h2
    · cases h
      exact ⟨j, x, beq_t hb, getH_self _ _ _, rfl⟩
  | (j, none) :: r, h => by
    simp only [renH, getH] at h
    cases hb : Nat.beq (ρ j) k <;> rw [hb] at h
    · obtain ⟨i, o', h1, h2, h3⟩ := getH_renH h
      refine ⟨i, o', h1, ?_, h3⟩
      have hji : j ≠ i := fun e => by subst e; exact beq_f hb h1
      rw [getH_ne hji]; exact h2
    · cases h
theorem getH_goneH {k : Nat} {o : SObj} : ∀ {l : List Nat} {H : List (Nat × Option SObj)}, getH k (goneH l H) = some o → k ∉ l ∧ getH k H = some o
  | [], H, h => ⟨by simp, h⟩
  | i :: r, H, h => by
    simp only [goneH, getH] at h
    cases hb : Nat.beq i k <;> rw [hb] at h
    · obtain ⟨h1, h2⟩ := getH_goneH h
      refine ⟨fun hm => ?_, h2⟩
      rcases List.mem_cons.1 hm with rfl | hm
      · exact beq_f hb rfl
      · exact h1 hm
    · cases h
theorem getH_app {k : Nat} {o : SObj} : ∀ {A B : List (Nat × Option SObj)}, getH k (A ++ B) = some o → getH k A = some o ∨ getH k B = some o
  | [], B, h => .inr h
  | (j, x) :: r, B, h => by
    simp only [List.cons_append, getH] at h ⊢
    cases hb : Nat.beq j k <;> rw [hb] at h
    · exact getH_app h
    · exact .inl h

/-- The frame of a part of the code: all that is owned but for some blocks stays as it is. -/
noncomputable def Fr.off (F : Fr) (β : List Nat) (hp : Hp) (fp : List Nat) (w : World) : Fr :=
  open Classical in
  ⟨fun b => if ∃ j o, j ∉ fp ∧ getH j hp.H = some o ∧ blk β j = b then w.heap[b]? else F.h b, F.w0⟩

section
variable {F : Fr} {hp : Hp} {w : World} {fp : List Nat}
theorem off_other (hS : Sat F β hp w) {j : Nat} {o : SObj} (hj : j ∉ fp) (ho : getH j hp.H = some o) : (F.off β hp fp w).h (blk β j) = some (o.den β) := by
  simp only [Fr.off]
  rw [if_pos ⟨j, o, hj, ho, rfl⟩]
  exact (hS.own j o ho).2.2.2
theorem off_cases (hS : Sat F β hp w) {b : Nat} : (∃ j o, j ∉ fp ∧ getH j hp.H = some o ∧ blk β j = b ∧ (∀ x, ¬ fixd F hp.G b x)) ∨ (F.off β hp fp w).h b = F.h b := by
  by_cases h : ∃ j o, j ∉ fp ∧ getH j hp.H = some o ∧ blk β j = b
  · obtain ⟨j, o, h1, h2, h3⟩ := h
    exact .inl ⟨j, o, h1, h2, h3, h3 ▸ (hS.own j o h2).2.2.1⟩
  · exact .inr (by simp only [Fr.off]; rw [if_neg h])

/-- What is known of fewer blocks, under other names. -/
theorem Sat.part (hS : Sat F β hp w) {βp : List Nat} {Hp0 : List (Nat × Option SObj)} {Gp : Nat → Option Obj} (hG : ∀ b o, Gp b = some o → hp.G b = some o) (src : Nat → Nat)
    (hown : ∀ i o, getH i Hp0 = some o → i < βp.length ∧ o.wf βp.length ∧ src i ∈ fp ∧ ∃ o', getH (src i) hp.H = some o' ∧ blk βp i = blk β (src i) ∧ o.den βp = o'.den β)
    (hinj : ∀ i o i' o', getH i Hp0 = some o → getH i' Hp0 = some o' → i ≠ i' → src i ≠ src i') :
    Sat (F.off β hp fp w) βp ⟨βp.length, Hp0, [], Gp⟩ w := by
  have hfix : ∀ i o, getH i Hp0 = some o → ∀ x, ¬ fixd (F.off β hp fp w) Gp (blk βp i) x := by
    intro i o ho x hx
    obtain ⟨_, _, hfp, o', h1, h2, _⟩ := hown i o ho
    have hno := (hS.own _ _ h1).2.2.1
    rcases hx with hx | hx
    · rcases off_cases (fp := fp) hS (b := blk βp i) with ⟨j, oj, hj, hoj, hb, _⟩ | he
      · have : j ≠ src i := fun e => hj (e ▸ hfp)
        exact hS.apart j oj _ o' hoj h1 this (hb.trans h2)
      · rw [he] at hx
        exact hno x (h2 ▸ .inl hx)
    · exact hno x (h2 ▸ .inr (hG _ _ hx))
  refine ⟨rfl, hS.outer, ?_, ?_, ?_, fun e he => (by cases he), ?_⟩
  · intro b o hb
    rcases hb with hb | hb
    · rcases off_cases (fp := fp) hS (b := b) with ⟨j, oj, hj, hoj, hb', _⟩ | he
      · subst hb'
        rw [off_other hS hj hoj] at hb
        cases hb
        exact (hS.own j oj hoj).2.2.2
      · rw [he] at hb; exact hS.ext b o (.inl hb)
    · exact hS.ext b o (.inr (hG b o hb))
  · intro i o ho
    obtain ⟨h1, h2, _, o', h4, h5, h6⟩ := hown i o ho
    exact ⟨h1, h2, hfix i o ho, by rw [h5, h6]; exact (hS.own _ _ h4).2.2.2⟩
  · intro i o i' o' ho ho' hne
    obtain ⟨_, _, _, x, h1, h2, _⟩ := hown i o ho
    obtain ⟨_, _, _, x', h1', h2', _⟩ := hown i' o' ho'
    rw [h2, h2']
    exact hS.apart _ _ _ _ h1 h1' (hinj i o i' o' ho ho' hne)
  · intro b o hb
    rcases off_cases (fp := fp) hS (b := b) with ⟨j, oj, hj, hoj, hb', hno⟩ | he
    · exact absurd (.inr (hG b o hb)) (hno o)
    · rw [he]; exact hS.disj b o (hG b o hb)

/-- And back: the other blocks are as they were. -/
theorem Sat.back (hS : Sat F β hp w) {βp : List Nat} {hp' : Hp} {w' : World} (hS' : Sat (F.off β hp fp w) βp hp' w') {γ : List Nat} (hm : Means ρ βp (β ++ γ)) {n : Nat} (hn : n = (β ++ γ).length) :
    Sat F (β ++ γ) ⟨n, renH ρ hp'.H ++ goneH fp hp.H, hp.R, hp'.G⟩ w' := by
  -- a block is renamed, or another one
  have cases_ : ∀ k o, getH k (renH ρ hp'.H ++ goneH fp hp.H) = some o →
      (∃ i o', ρ i = k ∧ getH i hp'.H = some o' ∧ o = o'.ren ρ) ∨ (k ∉ fp ∧ getH k hp.H = some o) := fun k o h => by
    rcases getH_app h with h | h
    · exact .inl (getH_renH h)
    · exact .inr (getH_goneH h)
  have hother : ∀ k o, k ∉ fp → getH k hp.H = some o → fixd (F.off β hp fp w) hp'.G (blk β k) (o.den β) := fun k o hk ho => .inl (off_other hS hk ho)
  have hF : ∀ b o, F.h b = some o → (F.off β hp fp w).h b = some o := fun b o hb => by
    rcases off_cases (fp := fp) hS (b := b) with ⟨j, oj, hj, hoj, hb', hno⟩ | he
    · exact absurd (.inl hb) (hno o)
    · rw [he]; exact hb
  have hlen : ∀ k : Nat, k < β.length → k < (β ++ γ).length := fun k hk => by simp; omega
  refine ⟨hn, hS'.outer, ?_, ?_, ?_, fun e he => ?_, ?_⟩
  · intro b o hb
    exact hS'.ext b o (hb.imp (hF b o) id)
  · intro k o ho
    rcases cases_ k o ho with ⟨i, o', rfl, h1, rfl⟩ | ⟨hk, h1⟩
    · obtain ⟨g1, g2, g3, g4⟩ := hS'.own i o' h1
      obtain ⟨m1, m2⟩ := hm i g1
      obtain ⟨d1, d2⟩ := SObj.ren_den hm o' g2
      refine ⟨m1, d2, fun x hx => g3 x ?_, by rw [m2, d1]; exact g4⟩
      rw [m2] at hx
      exact hx.imp (hF _ x) id
    · obtain ⟨g1, g2, g3, g4⟩ := hS.own k o h1
      rw [okOwn, blk_append g1, SObj.den_append _ _ _ g2]
      refine ⟨hlen k g1, SObj.wf_mono (by simp) _ g2, fun x hx => ?_, hS'.ext _ _ (hother k o hk h1)⟩
      rcases hx with hx | hx
      · exact g3 x (.inl hx)
      · have := hS'.disj _ _ hx
        rw [off_other hS hk h1] at this
        cases this
  · intro k o k' o' ho ho' hne
    rcases cases_ k o ho with ⟨i, x, rfl, h1, rfl⟩ | ⟨hk, h1⟩
    · obtain ⟨g1, _, g3, _⟩ := hS'.own i x h1
      rcases cases_ k' o' ho' with ⟨i', x', rfl, h1', rfl⟩ | ⟨hk', h1'⟩
      · obtain ⟨g1', _⟩ := hS'.own i' x' h1'
        rw [(hm i g1).2, (hm i' g1').2]
        exact hS'.apart i x i' x' h1 h1' (fun e => hne (by rw [e]))
      · rw [(hm i g1).2, blk_append (hS.own k' o' h1').1]
        intro e
        exact g3 _ (e ▸ hother k' o' hk' h1')
    · rcases cases_ k' o' ho' with ⟨i', x', rfl, h1', rfl⟩ | ⟨hk', h1'⟩
      · obtain ⟨g1', _, g3', _⟩ := hS'.own i' x' h1'
        rw [(hm i' g1').2, blk_append (hS.own k o h1).1]
        intro e
        exact g3' _ (e ▸ hother k o hk h1)
      · rw [blk_append (hS.own k o h1).1, blk_append (hS.own k' o' h1').1]
        exact hS.apart k o k' o' h1 h1' hne
  · obtain ⟨g1, g2⟩ := hS.ro e he
    exact ⟨hlen _ g1, by rw [blk_append g1]; exact g2⟩
  · intro b o hb
    have h1 := hS'.disj b o hb
    rcases off_cases (fp := fp) hS (b := b) with ⟨j, oj, hj, hoj, hb', hno⟩ | he
    · cases hF : F.h b with
      | none => rfl
      | some x => exact absurd (.inl hF) (hno x)
    · rw [← he]; exact h1
end
end
end Vx
end
section
/- A state held against a pattern: other names, and what has to be alike. -/
namespace Vx
open Go

abbrev Nm := List (Nat × Nat)
def findN (i : Nat) : Nm → Option Nat
  | [] => none
  | (k, j) :: r => bif Nat.beq k i then some j else findN i r
def mId (m i j : Nat) (r : Nm) (K : Nm → Prop) : Prop :=
  match findN i r with
  | some j' => bif Nat.beq j' j then K r else False
  | none => bif Nat.blt i m then K ((i, j) :: r) else False

def catO {α : Type} (a : List α) (b : Option (List α)) : Option (List α) :=
  match b with
  | none => some a
  | some b => some (a ++ b)
/-- The integers that a row begins with; how many; what follows. -/
def takeI (k : IntKind) : SV → Option (List Int) × NE × SV
  | .cons h t => (match h with
    | .int k' x => bif decide (k' = k) then (match takeI k t with | (ys, n, t') => (catO [x.den] ys, addN (.lit 1) n, t')) else (none, .lit 0, .cons h t)
    | .run k' m xs => bif decide (k' = k) then (match takeI k t with | (ys, n, t') => (catO xs.den ys, addN m n, t')) else (none, .lit 0, .cons h t)
    | _ => (none, .lit 0, .cons h t))
  | x => (none, .lit 0, x)
/-- A value in which no block is named. -/
def flat : SV → Option Value
  | .int k x => some (.int k x.den)
  | .bool b => some (.bool b.den)
  | .str s => some (.string s.den)
  | .nilptr => some (.pointer none)
  | .nilslice => some (.slice none 0 0)
  | .nilmap => some (.map none)
  | .opq v => some v
  | .gsl a l c => some (.slice a l.den c.den)
  | .gptr b o => some (.pointer (some ⟨b, o, none⟩))
  | _ => none
def rowVals : SV → Option (Option (List Value))
  | .nil => some none
  | .cons h t => (match rowVals t with
    | none => none
    | some r => (match h with
      | .blob _ vs => some (catO vs r)
      | .run k _ xs => some (catO (xs.den.map (.int k)) r)
      | h => (match flat h with
        | some v => some (catO [v] r)
        | none => none)))
  | _ => none

def SV.isNil : SV → Bool
  | .nil => true
  | _ => false
theorem SV.isNil_sound : ∀ {x : SV}, x.isNil = true → x = .nil
  | .nil, _ => rfl
/-- A pattern and a value: the names, and what has to be alike. -/
def mV (m : Nat) : SV → SV → Nm → (Nm → Prop) → Prop
  | .ptr i o, .ptr j o', r, K => mId m i j r fun r => eqO o o' (K r)
  | .slice i o l c, .slice j o' l' c', r, K => mId m i j r fun r => eqO o o' (eqM l l' (eqM c c' (K r)))
  | .map i, .map j, r, K => mId m i j r K
  | .int k a, .int k' b, r, K => bif decide (k = k') then eqI a b (K r) else False
  | .bool a, .bool b, r, K => eqB a b (K r)
  | .str a, .str b, r, K => a.den = b.den ∧ K r
  | .nilptr, .nilptr, r, K => K r
  | .nilslice, .nilslice, r, K => K r
  | .nilmap, .nilmap, r, K => K r
  | .gsl a l c, b, r, K => (match b with
    | .gsl a' l' c' => a = a' ∧ eqM l l' (eqM c c' (K r))
    | .nilslice => a = none ∧ l.den = 0 ∧ c.den = 0 ∧ K r
    | _ => False)
  | .gptr b o, .gptr b' o', r, K => b = b' ∧ o = o' ∧ K r
  | .opq v, b, r, K => (match flat b with
    | some u => v = u ∧ K r
    | none => False)
  | .agg a, .agg b, r, K => mV m a b r K
  | .tup a, .tup b, r, K => mV m a b r K
  | .nil, .nil, r, K => K r
  | .cons p rest, b, r, K => (match p with
    | .run k n xs => (match takeI k b with
      | (ys, w, b') => xs.den = ys.getD [] ∧ n.den = w.den ∧ mV m rest b' r K)
    | .blob n vs => bif rest.isNil then (match rowVals b with
        | some o => bif b.cells then vs = o.getD [] ∧ n.den = b.widN.den ∧ K r else False
        | none => False)
      else (match cutBlob b with
        | some (p, w, ws) => (match rowVals p with
          | some o => bif p.cells then vs = o.getD [] ∧ n.den = p.widN.den ∧ mV m rest (.cons (.blob w ws) .nil) r K else False
          | none => False)
        | none => False)
    | _ => (match b with
      | .cons h t => mV m p h r fun r => mV m rest t r K
      | _ => False))
  | _, _, _, _ => False

section
variable {m : Nat} {β βp : List Nat}
def Le (r r' : Nm) : Prop := ∀ i j, findN i r = some j → findN i r' = some j
/-- The names stand for the same blocks. -/
def Agree (r : Nm) (βp β : List Nat) : Prop := ∀ i j, findN i r = some j → blk βp i = blk β j
def NmOk (m n : Nat) (r : Nm) : Prop := ∀ i j, findN i r = some j → i < m ∧ j < n
theorem Le.refl (r : Nm) : Le r r := fun _ _ h => h
theorem Le.trans {a b c : Nm} (h : Le a b) (h' : Le b c) : Le a c := fun i j hi => h' i j (h i j hi)
theorem Agree.le {r r' : Nm} (h : Le r r') (ha : Agree r' βp β) : Agree r βp β := fun i j hi => ha i j (h i j hi)

theorem mId_sound {i j : Nat} {r : Nm} {K : Nm → Prop} (h : mId m i j r K) : ∃ r', Le r r' ∧ K r' ∧ findN i r' = some j ∧ (∀ n, j < n → NmOk m n r → NmOk m n r') := by
  unfold mId at h
  split at h
  · rename_i j' hj
    cases hb : Nat.beq j' j <;> rw [hb] at h
    · exact h.elim
    · have := beq_t hb
      subst this
      exact ⟨r, Le.refl r, h, hj, fun n _ h => h⟩
  · rename_i hn
    cases hb : Nat.blt i m <;> rw [hb] at h
    · exact h.elim
    · refine ⟨_, fun i' j' h' => ?_, h, by simp [findN, beq_self], fun n hj hk i' j' h' => ?_⟩
      · by_cases he : i = i'
        · subst he; rw [hn] at h'; cases h'
        · simp [findN, beq_ne he, h']
      · by_cases he : i = i'
        · subst he; simp [findN, beq_self] at h'; subst h'; exact ⟨blt_t hb, hj⟩
        · simp [findN, beq_ne he] at h'; exact hk i' j' h'

theorem catO_getD {α : Type} (a : List α) (b : Option (List α)) : (catO a b).getD [] = a ++ b.getD [] := by
  cases b <;> simp [catO]
theorem takeI_sound (β : List Nat) (k : IntKind) : ∀ b : SV, b.vals β = ((takeI k b).1.getD []).map (.int k) ++ (takeI k b).2.2.vals β ∧
    (b.wf β.length → ((takeI k b).1.getD []).length = (takeI k b).2.1.den ∧ (takeI k b).2.2.wf β.length) := by
  intro b
  induction b with
  | cons h t _ ih =>
    have triv : ∀ h : SV, (SV.cons h t).vals β = (([] : List Int)).map (Value.int k) ++ (SV.cons h t).vals β ∧ ((SV.cons h t).wf β.length → ([] : List Int).length = (NE.lit 0).den ∧ (SV.cons h t).wf β.length) :=
      fun h => ⟨rfl, fun hw => ⟨rfl, hw⟩⟩
    simp only [takeI]
    cases h with
    | int k' x =>
      simp only
      cases hd : decide (k' = k)
      · exact triv _
      · have := of_decide_eq_true hd
        subst this
        simp only [cond_true]
        refine ⟨?_, fun hw => ?_⟩
        · rw [catO_getD]
          simp only [SV.vals, ih.1, List.map_append, List.append_assoc]
          rfl
        · obtain ⟨h1, h2⟩ := ih.2 hw.2
          rw [catO_getD, addN_den, NE_lit]
          exact ⟨by simp [h1, Nat.add_comm], h2⟩
    | run k' n xs =>
      simp only
      cases hd : decide (k' = k)
      · exact triv _
      · have := of_decide_eq_true hd
        subst this
        simp only [cond_true]
        refine ⟨?_, fun hw => ?_⟩
        · rw [catO_getD]
          simp only [SV.vals, ih.1, List.map_append, List.append_assoc]
        · obtain ⟨h1, h2⟩ := ih.2 hw.2
          have h3 : xs.den.length = n.den := hw.1
          rw [catO_getD, addN_den]
          exact ⟨by simp [h1, h3], h2⟩
    | _ => exact triv _
  | _ => exact ⟨rfl, fun hw => ⟨rfl, hw⟩⟩

theorem flat_sound (β : List Nat) {x : SV} {v : Value} (h : flat x = some v) : x.vals β = [v] := by
  cases x <;> simp only [flat, Option.some.injEq] at h <;> first | (subst h; rfl) | cases h
theorem rowVals_sound (β : List Nat) : ∀ (b : SV) (o : Option (List Value)), rowVals b = some o → b.vals β = o.getD [] := by
  intro b
  induction b with
  | nil => intro o h; cases h; rfl
  | cons x t _ ih =>
    intro o h
    simp only [rowVals] at h
    split at h
    · cases h
    · rename_i r hr
      have h2 := ih r hr
      split at h
      · cases h; rw [catO_getD]; simp [SV.vals, h2]
      · cases h; rw [catO_getD]; simp [SV.vals, h2]
      · split at h
        · rename_i v hv
          cases h; rw [catO_getD]; simp [SV.vals, h2, flat_sound β hv]
        · cases h
  | _ => intro o h; cases h
theorem widN_len : ∀ b : SV, b.wf β.length → b.widN.den = (b.vals β).length
  | .nil, _ => rfl
  | .cons h t, hw => by simp [SV.widN, addN_den, SV.vals, widN_len h hw.1, widN_len t hw.2]
  | .run _ n xs, hw => by simp only [SV.widN, SV.vals, List.length_map]; exact hw.symm
  | .blob n vs, hw => by simp only [SV.widN, SV.vals]; exact hw.1.symm
  | .int .., _ => rfl
  | .bool .., _ => rfl
  | .str .., _ => rfl
  | .nilptr, _ => rfl
  | .ptr .., _ => rfl
  | .nilslice, _ => rfl
  | .slice .., _ => rfl
  | .nilmap, _ => rfl
  | .map .., _ => rfl
  | .opq .., _ => rfl
  | .fn .., _ => rfl
  | .iface .., _ => rfl
  | .agg .., _ => rfl
  | .tup .., _ => rfl
  | .gsl .., _ => rfl
  | .gptr .., _ => rfl

/-- What a match says. -/
structure MV (m : Nat) (a b : SV) (r r' : Nm) : Prop where
  le : Le r r'
  ok : ∀ n, b.wf n → NmOk m n r → NmOk m n r'
  vals : ∀ β βp, Agree r' βp β → b.wf β.length → a.vals βp = b.vals β
  wf : ∀ n, b.wf n → NmOk m n r' → a.wf m
theorem MV.of {m : Nat} {a b : SV} {r : Nm} (h : ∀ β βp, a.vals βp = b.vals β) (hw : ∀ n, b.wf n → a.wf m) : MV m a b r r :=
  ⟨Le.refl r, fun _ _ h => h, fun β βp _ _ => h β βp, fun n hn _ => hw n hn⟩

theorem mV_sound (m : Nat) : ∀ (a b : SV) (r : Nm) (K : Nm → Prop), mV m a b r K → ∃ r', K r' ∧ MV m a b r r' := by
  intro a
  induction a with
  | ptr i o =>
    intro b r K h
    cases b <;> try exact h.elim
    obtain ⟨r', h1, h2, h3, h4⟩ := mId_sound (h : mId m i _ r _)
    obtain ⟨h5, h6⟩ := eqO_sound h2
    refine ⟨r', h6, h1, fun n hn => h4 n hn, fun β βp hA _ => ?_, fun n hn hok => (hok _ _ h3).1⟩
    simp [SV.vals, hA _ _ h3, h5]
  | slice i o l c =>
    intro b r K h
    cases b <;> try exact h.elim
    obtain ⟨r', h1, h2, h3, h4⟩ := mId_sound (h : mId m i _ r _)
    obtain ⟨h5, h6⟩ := eqO_sound h2
    obtain ⟨h7, h6⟩ := eqM_sound h6
    obtain ⟨h8, h6⟩ := eqM_sound h6
    refine ⟨r', h6, h1, fun n hn => h4 n hn, fun β βp hA _ => ?_, fun n hn hok => (hok _ _ h3).1⟩
    simp [SV.vals, hA _ _ h3, h5, h7, h8]
  | map i =>
    intro b r K h
    cases b <;> try exact h.elim
    obtain ⟨r', h1, h2, h3, h4⟩ := mId_sound (h : mId m i _ r _)
    refine ⟨r', h2, h1, fun n hn => h4 n hn, fun β βp hA _ => ?_, fun n hn hok => (hok _ _ h3).1⟩
    simp [SV.vals, hA _ _ h3]
  | int k x =>
    intro b r K h
    cases b <;> try exact h.elim
    simp only [mV] at h
    rename_i k' y
    cases hd : decide (k = k') <;> rw [hd] at h
    · exact h.elim
    · obtain ⟨h1, h2⟩ := eqI_sound h
      have := of_decide_eq_true hd
      exact ⟨r, h2, MV.of (fun β βp => by simp [SV.vals, h1, this]) fun _ _ => trivial⟩
  | bool x =>
    intro b r K h
    cases b <;> try exact h.elim
    obtain ⟨h1, h2⟩ := eqB_sound h
    exact ⟨r, h2, MV.of (fun β βp => by simp [SV.vals, h1]) fun _ _ => trivial⟩
  | str x =>
    intro b r K h
    cases b <;> try exact h.elim
    exact ⟨r, h.2, MV.of (fun β βp => by simp [SV.vals, h.1]) fun _ _ => trivial⟩
  | nilptr => intro b r K h; cases b <;> first | exact ⟨r, h, MV.of (fun _ _ => rfl) fun _ _ => trivial⟩ | exact h.elim
  | nilslice => intro b r K h; cases b <;> first | exact ⟨r, h, MV.of (fun _ _ => rfl) fun _ _ => trivial⟩ | exact h.elim
  | nilmap => intro b r K h; cases b <;> first | exact ⟨r, h, MV.of (fun _ _ => rfl) fun _ _ => trivial⟩ | exact h.elim
  | nil => intro b r K h; cases b <;> first | exact ⟨r, h, MV.of (fun _ _ => rfl) fun _ _ => trivial⟩ | exact h.elim
  | gsl x l c =>
    intro b r K h
    cases b <;> try exact h.elim
    · obtain ⟨h1, h2, h3, h4⟩ := h
      exact ⟨r, h4, MV.of (fun β βp => by simp [SV.vals, h1, h2, h3]) fun _ _ => trivial⟩
    · obtain ⟨h1, h⟩ := h
      obtain ⟨h2, h⟩ := eqM_sound h
      obtain ⟨h3, h⟩ := eqM_sound h
      exact ⟨r, h, MV.of (fun β βp => by simp [SV.vals, h1, h2, h3]) fun _ _ => trivial⟩
  | gptr x o =>
    intro b r K h
    cases b <;> try exact h.elim
    exact ⟨r, h.2.2, MV.of (fun β βp => by simp [SV.vals, h.1, h.2.1]) fun _ _ => trivial⟩
  | opq v =>
    intro b r K h
    have h : (match flat b with | some u => v = u ∧ K r | none => False) := h
    split at h
    · rename_i u hu
      exact ⟨r, h.2, MV.of (fun β βp => by rw [flat_sound β hu, h.1]; rfl) fun _ _ => trivial⟩
    · exact h.elim
  | agg x ih =>
    intro b r K h
    cases b <;> try exact h.elim
    obtain ⟨r', h1, h2⟩ := ih _ r K h
    exact ⟨r', h1, h2.le, h2.ok, fun β βp hA hw => by simp [SV.vals, h2.vals β βp hA hw], h2.wf⟩
  | tup x ih =>
    intro b r K h
    cases b <;> try exact h.elim
    obtain ⟨r', h1, h2⟩ := ih _ r K h
    exact ⟨r', h1, h2.le, h2.ok, fun β βp hA hw => by simp [SV.vals, h2.vals β βp hA hw], h2.wf⟩
  | cons p rest ihp ihr =>
    intro b r K h
    have step : ∀ x t, mV m p x r (fun r => mV m rest t r K) → ∃ r', K r' ∧ MV m (.cons p rest) (.cons x t) r r' := by
      intro x t h
      obtain ⟨r1, h1, h2⟩ := ihp x r _ h
      obtain ⟨r2, h3, h4⟩ := ihr t r1 K h1
      refine ⟨r2, h3, h2.le.trans h4.le, fun n hn hok => h4.ok n hn.2 (h2.ok n hn.1 hok), fun β βp hA hw => ?_, fun n hn hok => ⟨h2.wf n hn.1 fun i j hi => hok i j (h4.le i j hi), h4.wf n hn.2 hok⟩⟩
      simp [SV.vals, h2.vals β βp (Agree.le h4.le hA) hw.1, h4.vals β βp hA hw.2]
    cases p with
    | run k n xs =>
      simp only [mV] at h
      obtain ⟨h1, h2, h⟩ := h
      obtain ⟨r', h3, h4⟩ := ihr _ r K h
      refine ⟨r', h3, h4.le, fun n hn hok => h4.ok n ?_ hok, fun β βp hA hw => ?_, fun n hn hok => ?_⟩
      · have := (takeI_sound (List.replicate n 0) k b).2 (by simpa using hn)
        simpa using this.2
      · obtain ⟨g1, g2⟩ := takeI_sound β k b
        have g3 := g2 hw
        rw [g1]
        simp only [SV.vals, h1, h4.vals β βp hA g3.2]
      · have := (takeI_sound (List.replicate n 0) k b).2 (by simpa using hn)
        simp only [List.length_replicate] at this
        exact ⟨by show xs.den.length = _; rw [h1, h2]; exact this.1, h4.wf n this.2 hok⟩
    | blob n vs =>
      simp only [mV] at h
      cases hnil : rest.isNil <;> rw [hnil] at h
      · simp only [cond_false] at h
        split at h
        · rename_i p w ws hcb
          split at h
          · rename_i o ho
            cases hc : p.cells <;> rw [hc] at h
            · exact h.elim
            · obtain ⟨h1, h2, h3⟩ := h
              obtain ⟨r', h4, h5⟩ := ihr _ r K h3
              refine ⟨r', h4, h5.le, fun k hk hok => h5.ok k ?_ hok, fun β βp hA hw => ?_, fun k hk hok => ?_⟩
              · obtain ⟨b1, b2, b3, b4⟩ := cutBlob_sound (β := List.replicate k 0) b p w ws (by simpa using hk) hcb
                exact ⟨⟨b3, b4⟩, trivial⟩
              · obtain ⟨b1, b2, b3, b4⟩ := cutBlob_sound (β := β) b p w ws hw hcb
                have e1 := h5.vals β βp hA ⟨⟨b3, b4⟩, trivial⟩
                have e2 := rowVals_sound β p o ho
                simp only [SV.vals, List.append_nil] at e1 ⊢
                rw [e1, b1, e2, h1]
              · obtain ⟨b1, b2, b3, b4⟩ := cutBlob_sound (β := List.replicate k 0) b p w ws (by simpa using hk) hcb
                have e2 := rowVals_sound (List.replicate k 0) p o ho
                refine ⟨⟨?_, fun v hv' => ?_⟩, h5.wf k ⟨⟨b3, b4⟩, trivial⟩ hok⟩
                · rw [h2, widN_len p b2, e2, h1]
                · exact SV.cells_sound b2 hc v (by rw [e2, ← h1]; exact hv')
          · exact h.elim
        · exact h.elim
      · simp only [cond_true] at h
        have := SV.isNil_sound hnil
        subst this
        split at h
        · rename_i o ho
          cases hc : b.cells <;> rw [hc] at h
          · exact h.elim
          · obtain ⟨h1, h2, h3⟩ := h
            refine ⟨r, h3, Le.refl r, fun _ _ h => h, fun β βp _ hw => ?_, fun k hk _ => ?_⟩
            · rw [rowVals_sound β b o ho]; simp [SV.vals, h1]
            · have hk' : b.wf (List.replicate k 0).length := by simpa using hk
              have hv := rowVals_sound (List.replicate k 0) b o ho
              refine ⟨⟨?_, fun v hv' => ?_⟩, trivial⟩
              · rw [h2, widN_len b hk', hv, h1]
              · exact SV.cells_sound hk' hc v (by rw [hv, ← h1]; exact hv')
        · exact h.elim
    | _ =>
      cases b <;> first | exact step _ _ h | exact h.elim
  | _ => intro b r K h; exact h.elim
end
end Vx
end
section
/- What functions and loops do, said once: patterns of arguments, heaps and results. -/
namespace Vx
open Go

def mArgs (m : Nat) : List SV → List SV → Nm → (Nm → Prop) → Prop
  | [], [], r, K => K r
  | a :: as, b :: bs, r, K => bif a.one then mV m a b r fun r => mArgs m as bs r K else False
  | _, _, _, _ => False
def mObj (m : Nat) : SObj → SObj → Nm → (Nm → Prop) → Prop
  | .cells l e z, .cells l' e' z', r, K => bif Nat.beq e e' then (bif decide (z = z') then mV m l l' r K else False) else False
  | .other o, .other o', r, K => o = o' ∧ K r
  | .pmap k ps c, .pmap k' ps' c', r, K => bif decide (k = k') then ps = ps' ∧ c = c' ∧ K r else False
  | .pmap _ ps c, .map es c', r, K => (match es with
    | [] => ps = [] ∧ c = c' ∧ K r
    | _ => False)
  | _, _, _, _ => False
def mHeap (m : Nat) : List (Nat × SObj) → List (Nat × Option SObj) → Nm → (Nm → Prop) → Prop
  | [], _, r, K => K r
  | (i, o) :: l, H, r, K => (match findN i r with
    | some j => (match getH j H with
      | some o' => mObj m o o' r fun r => mHeap m l H r K
      | none => False)
    | none => False)
def Sub (G G' : Nat → Option Obj) : Prop := ∀ b o, G b = some o → G' b = some o
theorem Sub.refl (G : Nat → Option Obj) : Sub G G := fun _ _ h => h
theorem Sub.trans {A B C : Nat → Option Obj} (h : Sub A B) (h' : Sub B C) : Sub A C := fun b o hb => h' b o (h b o hb)

def injB (r : Nm) : Bool := r.all fun p => r.all fun q => bif Nat.beq p.2 q.2 then Nat.beq p.1 q.1 else true
def heapOf : List (Nat × SObj) → List (Nat × Option SObj)
  | [] => []
  | (i, o) :: l => (i, some o) :: heapOf l
/-- Arguments and a heap against a pattern. -/
def mState (m : Nat) (ps as : List SV) (hs : List (Nat × SObj)) (G : Nat → Option Obj) (hp : Hp) (r : Nm) (K : Nm → Prop) : Prop :=
  mArgs m ps as r fun r => mHeap m hs hp.H r fun r => bif injB r then Sub G hp.G ∧ K r else False

theorem mem_heapOf {i : Nat} {o : SObj} : ∀ {l : List (Nat × SObj)}, getH i (heapOf l) = some o → (i, o) ∈ l
  | [], h => (by cases h)
  | (j, x) :: l, h => by
    simp only [heapOf, getH] at h
    cases hb : Nat.beq j i <;> rw [hb] at h
    · exact List.mem_cons_of_mem _ (mem_heapOf h)
    · have := beq_t hb
      subst this
      cases h
      exact List.mem_cons_self
theorem findN_mem {i j : Nat} : ∀ {r : Nm}, findN i r = some j → (i, j) ∈ r
  | [], h => (by cases h)
  | (k, x) :: r, h => by
    simp only [findN] at h
    cases hb : Nat.beq k i <;> rw [hb] at h
    · exact List.mem_cons_of_mem _ (findN_mem h)
    · have := beq_t hb
      subst this
      cases h
      exact List.mem_cons_self
theorem injB_sound {r : Nm} (h : injB r = true) {i i' j : Nat} (h1 : findN i r = some j) (h2 : findN i' r = some j) : i = i' := by
  simp only [injB, List.all_eq_true] at h
  have := h _ (findN_mem h1) _ (findN_mem h2)
  simp only [beq_self, cond_true] at this
  exact beq_t this

section
variable {m : Nat}
theorem mArgs_sound : ∀ (ps as : List SV) (r : Nm) (K : Nm → Prop), mArgs m ps as r K → ∃ r', K r' ∧ Le r r' ∧ (∀ n, (∀ b ∈ as, b.wf n) → NmOk m n r → NmOk m n r') ∧
    (∀ β βp, Agree r' βp β → (∀ b ∈ as, b.wf β.length) → ps.map (SV.val βp) = as.map (SV.val β)) ∧ (∀ n, (∀ b ∈ as, b.wf n) → NmOk m n r' → ∀ a ∈ ps, a.one = true ∧ a.wf m)
  | [], [], r, K, h => ⟨r, h, Le.refl r, fun _ _ h => h, fun _ _ _ _ => rfl, fun _ _ _ a ha => (by cases ha)⟩
  | a :: as, b :: bs, r, K, h => by
    simp only [mArgs] at h
    cases ho : a.one <;> rw [ho] at h
    · exact h.elim
    · obtain ⟨r1, h1, h2⟩ := mV_sound m a b r _ h
      obtain ⟨r2, g1, g2, g3, g4, g5⟩ := mArgs_sound as bs r1 K h1
      refine ⟨r2, g1, h2.le.trans g2, fun n hn hok => g3 n (fun b hb => hn b (List.mem_cons_of_mem _ hb)) (h2.ok n (hn b List.mem_cons_self) hok), fun β βp hA hw => ?_, fun n hn hok x hx => ?_⟩
      · have h3 := h2.vals β βp (Agree.le g2 hA) (hw b List.mem_cons_self)
        have h4 := g4 β βp hA fun b hb => hw b (List.mem_cons_of_mem _ hb)
        simp [SV.val, h3, h4]
      · rcases List.mem_cons.1 hx with rfl | hx
        · exact ⟨ho, h2.wf n (hn b List.mem_cons_self) fun i j hi => hok i j (g2 i j hi)⟩
        · exact g5 n (fun b hb => hn b (List.mem_cons_of_mem _ hb)) hok x hx
  | [], _ :: _, _, _, h => h.elim
  | _ :: _, [], _, _, h => h.elim

theorem mObj_sound (o o' : SObj) (r : Nm) (K : Nm → Prop) (h : mObj m o o' r K) : ∃ r', K r' ∧ Le r r' ∧ (∀ n, o'.wf n → NmOk m n r → NmOk m n r') ∧
    (∀ β βp, Agree r' βp β → o'.wf β.length → o.den βp = o'.den β) ∧ (∀ n, o'.wf n → NmOk m n r' → o.wf m) := by
  unfold mObj at h
  split at h
  · rename_i l e z l' e' z'
    cases hb : Nat.beq e e' <;> rw [hb] at h
    · exact h.elim
    · cases hd : decide (z = z') <;> rw [hd] at h
      · exact h.elim
      · have := beq_t hb
        subst this
        have := of_decide_eq_true hd
        subst this
        obtain ⟨r1, h1, h2⟩ := mV_sound m l l' r _ h
        exact ⟨r1, h1, h2.le, h2.ok, fun β βp hA hw => by simp only [SObj.den, h2.vals β βp hA hw], h2.wf⟩
  · obtain ⟨rfl, h⟩ := h
    exact ⟨r, h, Le.refl r, fun _ _ h => h, fun _ _ _ _ => rfl, fun _ _ _ => trivial⟩
  · rename_i k ps c k' ps' c'
    cases hd : decide (k = k') <;> rw [hd] at h
    · exact h.elim
    · have := of_decide_eq_true hd
      subst this
      obtain ⟨rfl, rfl, h⟩ := h
      exact ⟨r, h, Le.refl r, fun _ _ h => h, fun _ _ _ _ => rfl, fun _ _ _ => trivial⟩
  · split at h
    · obtain ⟨rfl, rfl, h⟩ := h
      exact ⟨r, h, Le.refl r, fun _ _ h => h, fun _ _ _ _ => rfl, fun _ _ _ => trivial⟩
    · exact h.elim
  · exact h.elim

theorem mHeap_sound : ∀ (l : List (Nat × SObj)) (H : List (Nat × Option SObj)) (r : Nm) (K : Nm → Prop), mHeap m l H r K → ∃ r', K r' ∧ Le r r' ∧
    (∀ n, (∀ j o, getH j H = some o → o.wf n) → NmOk m n r → NmOk m n r') ∧
    (∀ e ∈ l, ∃ j o', findN e.1 r' = some j ∧ getH j H = some o' ∧ (∀ β βp, Agree r' βp β → o'.wf β.length → e.2.den βp = o'.den β) ∧ (∀ n, o'.wf n → NmOk m n r' → e.2.wf m))
  | [], H, r, K, h => ⟨r, h, Le.refl r, fun _ _ h => h, fun e he => (by cases he)⟩
  | (i, o) :: l, H, r, K, h => by
    simp only [mHeap] at h
    split at h
    · rename_i j hj
      split at h
      · rename_i o' ho
        obtain ⟨r1, h1, h2, h3, h4, h5⟩ := mObj_sound o o' r _ h
        obtain ⟨r2, g1, g2, g3, g4⟩ := mHeap_sound l H r1 K h1
        refine ⟨r2, g1, h2.trans g2, fun n hn hok => g3 n hn (h3 n (hn j o' ho) hok), fun e he => ?_⟩
        rcases List.mem_cons.1 he with rfl | he
        · exact ⟨j, o', g2 _ _ (h2 _ _ hj), ho, fun β βp hA => h4 β βp (Agree.le g2 hA), fun n hn hok => h5 n hn fun i j hi => hok i j (g2 i j hi)⟩
        · exact g4 e he
      · exact h.elim
    · exact h.elim

/-- The blocks behind the names of a pattern. -/
def namesOf (m : Nat) (r : Nm) (β : List Nat) : List Nat := (List.range m).map fun i => match findN i r with
  | some j => blk β j
  | none => 0
theorem namesOf_length (m : Nat) (r : Nm) (β : List Nat) : (namesOf m r β).length = m := by simp [namesOf]
theorem namesOf_blk {r : Nm} {β : List Nat} {i j : Nat} (hi : i < m) (h : findN i r = some j) : blk (namesOf m r β) i = blk β j := by
  simp [blk, namesOf, hi, h]
theorem namesOf_agree {r : Nm} {β : List Nat} {n : Nat} (hok : NmOk m n r) : Agree r (namesOf m r β) β := fun i j h => namesOf_blk (hok i j h).1 h

def fpOf (hs : List (Nat × SObj)) (r : Nm) : List Nat := hs.map fun e => (findN e.1 r).getD 0

/-- What a match of a state says. -/
theorem mState_sound {F : Fr} {β : List Nat} {hp : Hp} {w : World} (hS : Sat F β hp w) {ps as : List SV} {hs : List (Nat × SObj)} {G : Nat → Option Obj} {r : Nm} {K : Nm → Prop}
    (h : mState m ps as hs G hp r K) (hr : NmOk m β.length r) (hw : ∀ b ∈ as, b.wf β.length) :
    ∃ r', K r' ∧ Le r r' ∧ NmOk m β.length r' ∧ injB r' = true ∧ ps.map (SV.val (namesOf m r' β)) = as.map (SV.val β) ∧ (∀ a ∈ ps, a.one = true ∧ a.wf m) ∧
      Sat (F.off β hp (fpOf hs r') w) (namesOf m r' β) ⟨m, heapOf hs, [], G⟩ w := by
  obtain ⟨r1, h1, h2, h3, h4, h5⟩ := mArgs_sound ps as r _ h
  obtain ⟨r2, g1, g2, g3, g4⟩ := mHeap_sound hs hp.H r1 _ h1
  cases hi : injB r2 <;> rw [hi] at g1
  · exact g1.elim
  · obtain ⟨hsub, hK⟩ := g1
    have hok1 := h3 _ hw hr
    have hok2 := g3 β.length (fun j o ho => (hS.own j o ho).2.1) hok1
    have hA := namesOf_agree (β := β) hok2
    refine ⟨r2, hK, h2.trans g2, hok2, hi, h4 β _ (Agree.le g2 hA) hw, h5 _ hw hok1, ?_⟩
    have := Sat.part (fp := fpOf hs r2) (βp := namesOf m r2 β) (Hp0 := heapOf hs) (Gp := G) hS hsub (fun i => (findN i r2).getD 0) ?_ ?_
    · rwa [namesOf_length] at this
    · intro i o ho
      have hm := mem_heapOf ho
      obtain ⟨j, o', e1, e2, e3, e4⟩ := g4 (i, o) hm
      have hwo := (hS.own j o' e2).2.1
      rw [namesOf_length]
      refine ⟨(hok2 _ _ e1).1, e4 _ hwo hok2, List.mem_map.2 ⟨(i, o), hm, rfl⟩, o', ?_, ?_, e3 β _ hA hwo⟩
      · simp only [e1, Option.getD_some]; exact e2
      · simp only [e1, Option.getD_some]; exact hA _ _ e1
    · intro i o i' o' ho ho' hne
      obtain ⟨j, _, e1, _⟩ := g4 (i, o) (mem_heapOf ho)
      obtain ⟨j', _, e1', _⟩ := g4 (i', o') (mem_heapOf ho')
      simp only [e1, e1', Option.getD_some]
      intro e
      subst e
      exact hne (injB_sound hi e1 e1')

theorem Sat.unoff {F : Fr} {β : List Nat} {hp : Hp} {w : World} {fp : List Nat} (hS : Sat F β hp w) {βq : List Nat} {q : Hp} {w' : World} (h : Sat (F.off β hp fp w) βq q w') : Sat F βq q w' := by
  have hF : ∀ b o, F.h b = some o → (F.off β hp fp w).h b = some o := fun b o hb => by
    rcases off_cases (fp := fp) hS (b := b) with ⟨j, oj, hj, hoj, hb', hno⟩ | he
    · exact absurd (.inl hb) (hno o)
    · rw [he]; exact hb
  refine ⟨h.n, h.outer, fun b o hb => h.ext b o (hb.imp (hF b o) id), fun i o ho => ?_, h.apart, h.ro, fun b o hb => ?_⟩
  · obtain ⟨g1, g2, g3, g4⟩ := h.own i o ho
    exact ⟨g1, g2, fun x hx => g3 x (hx.imp (hF _ x) id), g4⟩
  · have h1 := h.disj b o hb
    cases hF' : F.h b with
    | none => rfl
    | some x => rw [hF b x hF'] at h1; cases h1

/-- The real names: what a pattern's first ones stand for; new ones behind all others. -/
def real (f n : Nat) (r : Nm) (i : Nat) : Nat := bif Nat.blt i f then (findN i r).getD 0 else n + (i - f)
def allN (f : Nat) (r : Nm) : Bool := (List.range f).all fun i => (findN i r).isSome
theorem real_means {f : Nat} {r : Nm} {β δ : List Nat} (hf : f ≤ δ.length) (hall : allN f r = true) (hok : NmOk m β.length r) (hA : ∀ i j, i < f → findN i r = some j → blk δ i = blk β j) :
    Means (real f β.length r) δ (β ++ δ.drop f) := by
  intro i hi
  unfold real
  by_cases h : i < f
  · rw [blt_of h, cond_true]
    have := (List.all_eq_true.1 hall) i (List.mem_range.2 h)
    cases hj : findN i r with
    | none => rw [hj] at this; cases this
    | some j =>
      have h2 := (hok i j hj).2
      simp only [Option.getD_some]
      refine ⟨by simp; omega, ?_⟩
      rw [blk_append h2, hA i j h hj]
  · rw [blt_not (by omega), cond_false]
    refine ⟨by simp; omega, ?_⟩
    unfold blk
    rw [List.getElem?_append_right (by omega), show β.length + (i - f) - β.length = i - f by omega, List.getElem?_drop, show f + (i - f) = i by omega]
end
end Vx
end
