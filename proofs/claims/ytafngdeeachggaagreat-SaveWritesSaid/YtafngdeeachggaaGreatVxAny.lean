/- Regions in whatever order: what only computes first, then what is loaded, then all orders of the rest. -/
import Derived.Test.YtafngdeeachggaaGreatVxMild
set_option linter.unusedVariables false
set_option linter.unusedSimpArgs false
namespace Vx
open Go

section
variable {P : Program} {ops : Array Oper} {Q : Exit → Act → World → Prop}

/-- Does an operation wait for another one's end? -/
def waitsFor (ops : Array Oper) (j i : Nat) : Bool :=
  match ops[j]? with
  | some o => o.after.any fun e => Region.binds .any e && Nat.beq e.on i
  | none => false
abbrev Watch := Nat × (World → Prop)
def holdW (W : List Watch) (w : World) : Prop := ∀ x ∈ W, x.2 w
def alive (ops : Array Oper) (j : Nat) (W : List Watch) : List Watch := W.filter fun x => !waitsFor ops j x.1

/-- All orders; and what is watched holds behind each operation that need not wait. -/
def wpC (P : Program) (ops : Array Oper) (Q : Exit → Act → World → Prop) : Nat → List Watch → Array Bool → Act → World → Prop
  | 0, _, listed, a, w => Region.ready .any ops listed = [] ∧ Q .normal a w
  | fuel + 1, W, listed, a, w =>
    (Region.ready .any ops listed = [] → Q .normal a w) ∧
    ∀ j ∈ Region.ready .any ops listed, wpOp P ops Q j (fun a' w' => holdW (alive ops j W) w' ∧ wpC P ops Q fuel (alive ops j W) (listed.setIfInBounds j true) a' w') a w

theorem alive_sub {j : Nat} {W W' : List Watch} (h : W' ⊆ W) : alive ops j W' ⊆ alive ops j W := by
  intro x hx
  simp only [alive, List.mem_filter] at hx ⊢
  exact ⟨h hx.1, hx.2⟩
theorem holdW_sub {W W' : List Watch} (h : W' ⊆ W) {w : World} (hw : holdW W w) : holdW W' w := fun x hx => hw x (h hx)
theorem wpC_sub : ∀ (fuel : Nat) {W W' : List Watch} {listed : Array Bool} {a : Act} {w : World}, (∀ x ∈ W', x ∈ W ∨ ∀ w, x.2 w) → wpC P ops Q fuel W listed a w → wpC P ops Q fuel W' listed a w
  | 0, _, _, _, _, _, _, h => h
  | fuel + 1, W, W', _, _, _, hs, h => by
    refine ⟨h.1, fun j hj => wpOp_mono (fun _ _ h' => ?_) (h.2 j hj)⟩
    have hs' : ∀ x ∈ alive ops j W', x ∈ alive ops j W ∨ ∀ w, x.2 w := fun x hx => by
      simp only [alive, List.mem_filter] at hx ⊢
      exact (hs x hx.1).imp (fun h => ⟨h, hx.2⟩) id
    exact ⟨fun x hx => (hs' x hx).elim (h'.1 x) fun h => h _, wpC_sub fuel hs' h'.2⟩
theorem wpC_any : ∀ (fuel : Nat) {W : List Watch} {listed : Array Bool} {a : Act} {w : World}, wpC P ops Q fuel W listed a w → wpAny P .any ops Q fuel listed a w
  | 0, _, _, _, _, h => h
  | fuel + 1, _, _, _, _, h => ⟨h.1, fun j hj => wpOp_mono (fun _ _ h' => wpC_any fuel h'.2) (h.2 j hj)⟩

/-- An operation comes to a value wherever something holds, and leaves all as it was. -/
def YI (P : Program) (ops : Array Oper) (o : Oper) (v : Value) (I : World → Prop) (a : Act) : Prop :=
  (Region.wanted o (yielded ops a.tmps) = true ∧ ∀ w, I w → (execOp a.eval o).run P w = .ok (.value v) w) ∨
  (Region.wanted o (yielded ops a.tmps) = false ∧ v = undef)
theorem YI.same {o : Oper} {v : Value} {I : World → Prop} {a a' : Act} (h : YI P ops o v I a) (he : execOp a'.eval o = execOp a.eval o)
    (hw : Region.wanted o (yielded ops a'.tmps) = Region.wanted o (yielded ops a.tmps)) : YI P ops o v I a' := by
  unfold YI at *; rw [he, hw]; exact h
theorem YI.wpOp {i : Nat} {o : Oper} {v : Value} {I : World → Prop} {a : Act} (hi : ops[i]? = some o) (h : YI P ops o v I a)
    {K : Act → World → Prop} {w : World} (hw : I w) (hK : K (a.put o.dst v) w) : wpOp P ops Q i K a w := by
  unfold Go.wpOp
  simp only [hi]
  rcases h with ⟨h1, h2⟩ | ⟨h1, rfl⟩
  · rw [if_pos h1]
    exact .inl (by unfold Oper.wp; rw [h2 w hw]; exact hK)
  · rw [if_neg (by rw [h1]; simp)]; exact hK

theorem YI.past {j : Nat} {oi oj : Oper} {v : Value} {I : World → Prop} (hj : ops[j]? = some oj) (hap : oi.apart ops oj = true)
    (hsi : ∀ cs b, oi.op ≠ .select cs b) (hsj : ∀ cs b, oj.op ≠ .select cs b)
    (hQ : ∀ c a w, Q (.panic c) (a.put oi.dst v) w → Q (.panic c) a w) {K : Act → World → Prop} {a : Act} {w : World}
    (hy : YI P ops oi v I a) (h : Go.wpOp P ops Q j K (a.put oi.dst v) w) :
    Go.wpOp P ops Q j (fun a' w' => YI P ops oi v I a' ∧ K (a'.put oi.dst v) w') a w := by
  obtain ⟨h1, h2, h3⟩ := Oper.apart_spec hap
  have keep : ∀ u, YI P ops oi v I (a.put oj.dst u) := fun u => hy.same (execOp_put oi hsi a oj.dst u h3) (wanted_put oi a oj.dst u h3)
  have comm : ∀ u, (a.put oi.dst v).put oj.dst u = (a.put oj.dst u).put oi.dst v := fun u => Act.put_comm a v u h2
  unfold Go.wpOp at *
  simp only [hj] at *
  rw [wanted_put oj a oi.dst v h1] at h
  cases hw : Region.wanted oj (yielded ops a.tmps) <;> rw [hw] at h
  · rw [if_neg (by simp)] at h ⊢
    exact ⟨keep undef, by rw [← comm]; exact h⟩
  · rw [if_pos rfl] at h ⊢
    have hx := execOp_put oj hsj a oi.dst v h1
    rcases h with h | ⟨ha, hl⟩
    · refine .inl ?_
      unfold Oper.wp at *
      rw [hx] at h
      cases hr : (execOp a.eval oj).run P w with
      | ok n w' =>
        rw [hr] at h
        cases n with
        | value u => exact ⟨keep u, by rw [← comm]; exact h⟩
        | skip => exact ⟨keep undef, by rw [← comm]; exact h⟩
        | defer d =>
          refine ⟨(hy.same rfl rfl : YI P ops oi v I { a with defers := d :: a.defers }).same (execOp_put oi hsi _ oj.dst undef h3) (wanted_put oi _ oj.dst undef h3), ?_⟩
          show K (({ a with defers := d :: a.defers } : Act).put oj.dst undef |>.put oi.dst v) w'
          rw [← Act.put_comm _ v undef h2, ← Act.put_defers]
          exact h
        | enter f args =>
          refine Calls.mono (h : Calls P f args w' _) fun e w'' he => ?_
          cases e with
          | returned u => exact ⟨keep u, by rw [← comm]; exact he⟩
          | panicked c => exact hQ _ _ _ he
          | outgrown => exact he
        | row row args => exact Rows.mono (h : Rows P row args w' _) fun u w'' he => ⟨keep u, by rw [← comm]; exact he⟩
        | _ => exact h
      | halt x w' =>
        rw [hr] at h
        cases x with
        | panic u => exact hQ _ _ _ h
        | _ => exact h
    · exact .inr ⟨by unfold Oper.asks at *; rw [hx] at ha; exact ha, hl⟩

theorem waitsFor_ready {i j : Nat} {listed : Array Bool} (hi : i ∈ Region.ready .any ops listed) (hj : j ∈ Region.ready .any ops listed) : waitsFor ops j i = false := by
  obtain ⟨_, oj, hoj, hall⟩ := mem_ready.1 hj
  have h0 := (mem_ready.1 hi).1
  cases hw : waitsFor ops j i
  · rfl
  · simp only [waitsFor, hoj] at hw
    obtain ⟨e, he, hb⟩ := Array.any_eq_true'.1 hw
    simp only [Bool.and_eq_true] at hb
    have h1 := hall e he hb.1
    have h2 : e.on = i := Nat.eq_of_beq_eq_true hb.2
    rw [h2] at h1
    rcases Nat.lt_or_ge i listed.size with h' | h'
    · simp [h'] at h0 h1; rw [h0] at h1; cases h1
    · simp [Array.getElem?_eq_none h'] at h1

/-- What may be done first, is. -/
theorem wpC_first {i : Nat} {oi : Oper} {v : Value} {I : World → Prop} (hi : ops[i]? = some oi) (hsel : ∀ (j : Nat) (o : Oper) cs b, ops[j]? = some o → o.op ≠ .select cs b)
    (hQ : ∀ c a w, Q (.panic c) (a.put oi.dst v) w → Q (.panic c) a w) :
    ∀ (fuel : Nat) (W : List Watch) (listed : Array Bool) (a : Act) (w : World),
      (∀ j oj, ops[j]? = some oj → j ≠ i → listed.getD j true = false → (∀ e ∈ oj.after, Region.binds .any e = true → e.on ≠ i) → oi.apart ops oj = true) →
      i ∈ Region.ready .any ops listed → YI P ops oi v I a → I w → holdW (alive ops i W) w →
      wpC P ops Q fuel ((i, I) :: W) (listed.setIfInBounds i true) (a.put oi.dst v) w → wpC P ops Q (fuel + 1) W listed a w := by
  intro fuel
  have take : ∀ (fuel : Nat) (W : List Watch) (listed : Array Bool) (a : Act) (w : World), YI P ops oi v I a → I w → holdW (alive ops i W) w →
      wpC P ops Q fuel ((i, I) :: W) (listed.setIfInBounds i true) (a.put oi.dst v) w →
      Go.wpOp P ops Q i (fun a' w' => holdW (alive ops i W) w' ∧ wpC P ops Q fuel (alive ops i W) (listed.setIfInBounds i true) a' w') a w := by
    intro fuel W listed a w hy hw hW H
    refine hy.wpOp hi hw ⟨hW, wpC_sub fuel (fun x hx => .inl ?_) H⟩
    exact List.mem_cons_of_mem _ (List.mem_filter.1 hx).1
  induction fuel with
  | zero =>
    intro W listed a w _ hr hy hw hW H
    refine ⟨fun h => (by rw [h] at hr; cases hr), fun j hj => ?_⟩
    by_cases hji : j = i
    · subst hji; exact take 0 W listed a w hy hw hW H
    · have := ready_mono hj hji
      rw [H.1] at this
      cases this
  | succ fuel ih =>
    intro W listed a w hfree hr hy hw hW H
    refine ⟨fun h => (by rw [h] at hr; cases hr), fun j hj => ?_⟩
    by_cases hji : j = i
    · subst hji; exact take _ W listed a w hy hw hW H
    · have h1 := H.2 j (ready_mono hj hji)
      obtain ⟨hjun, oj, hoj, hall⟩ := mem_ready.1 hj
      have hwf := waitsFor_ready hr hj
      have hnot : ∀ e ∈ oj.after, Region.binds .any e = true → e.on ≠ i := fun e he hb heq => by
        have : waitsFor ops j i = true := by
          simp only [waitsFor, hoj]
          exact Array.any_eq_true'.2 ⟨e, he, by simp [hb, heq, beq_self]⟩
        rw [hwf] at this; cases this
      have hal : alive ops j ((i, I) :: W) = (i, I) :: alive ops j W := by simp [alive, hwf]
      rw [hal] at h1
      have h2 := YI.past hoj (hfree j oj hoj hji hjun hnot) (fun cs b => hsel i oi cs b hi) (fun cs b => hsel j oj cs b hoj) hQ hy h1
      have hfree' : ∀ k ok, ops[k]? = some ok → k ≠ i → (listed.setIfInBounds j true).getD k true = false →
          (∀ e ∈ ok.after, Region.binds .any e = true → e.on ≠ i) → oi.apart ops ok = true := fun k ok hk hki hun hno => by
        refine hfree k ok hk hki ?_ hno
        by_cases hjk : j = k
        · subst hjk; exact hjun
        · rw [getD_set_ne true hjk] at hun; exact hun
      refine wpOp_mono (fun a' w' h3 => ?_) h2
      obtain ⟨h4, h5, h6⟩ := h3
      refine ⟨fun x hx => h5 x (List.mem_cons_of_mem _ hx), ih (alive ops j W) (listed.setIfInBounds j true) a' w' hfree' (ready_mono hr (Ne.symm hji)) h4 (h5 (i, I) List.mem_cons_self) (fun x hx => h5 x (List.mem_cons_of_mem _ (List.mem_filter.1 hx).1)) ?_⟩
      rw [Array.setIfInBounds_comm _ _ hji]
      exact h6
end

/-! ### On symbolic values -/

def eqI (a b : IE) (K : Prop) : Prop :=
  match a, b with
  | .lit x, .lit y => bif decide (x = y) then K else False
  | a, b => a.den = b.den ∧ K
theorem eqI_sound {a b : IE} {K : Prop} (h : eqI a b K) : a.den = b.den ∧ K := by
  unfold eqI at h
  split at h
  · rename_i x y
    cases hd : decide (x = y) <;> rw [hd] at h
    · exact h.elim
    · exact ⟨of_decide_eq_true hd, h⟩
  · exact h
/-- The same offset, or two that are alike. -/
def eqO (a b : Off) (K : Prop) : Prop :=
  match a, b with
  | .lit x, .lit y => bif Nat.beq x y then K else False
  | a, b => a.den = b.den ∧ K
theorem eqO_sound {a b : Off} {K : Prop} (h : eqO a b K) : a.den = b.den ∧ K := by
  unfold eqO at h
  split at h
  · rename_i x y
    cases hb : Nat.beq x y <;> rw [hb] at h
    · exact h.elim
    · exact ⟨beq_t hb, h⟩
  · exact h
def eqB (a b : BE) (K : Prop) : Prop :=
  match a, b with
  | .lit x, .lit y => bif decide (x = y) then K else False
  | a, b => a.den = b.den ∧ K
theorem eqB_sound {a b : BE} {K : Prop} (h : eqB a b K) : a.den = b.den ∧ K := by
  unfold eqB at h
  split at h
  · rename_i x y
    cases hd : decide (x = y) <;> rw [hd] at h
    · exact h.elim
    · exact ⟨of_decide_eq_true hd, h⟩
  · exact h
def eqM (a b : NE) (K : Prop) : Prop :=
  match a, b with
  | .lit x, .lit y => bif Nat.beq x y then K else False
  | a, b => a.den = b.den ∧ K
theorem eqM_sound {a b : NE} {K : Prop} (h : eqM a b K) : a.den = b.den ∧ K := by
  unfold eqM at h
  split at h
  · rename_i x y
    cases hb : Nat.beq x y <;> rw [hb] at h
    · exact h.elim
    · exact ⟨beq_t hb, h⟩
  · exact h
/-- Two that are alike. -/
def eqV : SV → SV → Prop → Prop
  | .int k a, .int k' b, K => bif decide (k = k') then eqI a b K else False
  | .bool a, .bool b, K => eqB a b K
  | .str a, .str b, K => a.den = b.den ∧ K
  | .nilptr, .nilptr, K => K
  | .ptr i o, .ptr j o', K => bif Nat.beq i j then eqO o o' K else False
  | .nilslice, .nilslice, K => K
  | .slice i o l c, .slice j o' l' c', K => bif Nat.beq i j then eqO o o' (eqM l l' (eqM c c' K)) else False
  | .nilmap, .nilmap, K => K
  | .map i, .map j, K => bif Nat.beq i j then K else False
  | .opq v, .opq v', K => v = v' ∧ K
  | .agg a, .agg b, K => eqV a b K
  | .tup a, .tup b, K => eqV a b K
  | .nil, .nil, K => K
  | .cons a b, .cons c d, K => eqV a c (eqV b d K)
  | .run k n xs, .run k' n' ys, K => bif decide (k = k') then xs.den = ys.den ∧ K else False
  | .blob _ vs, .blob _ vs', K => vs = vs' ∧ K
  | .gsl a l c, .gsl a' l' c', K => a = a' ∧ eqM l l' (eqM c c' K)
  | .gptr b o, .gptr b' o', K => b = b' ∧ o = o' ∧ K
  | _, _, _ => False
theorem NE.i_inj {a b : NE} (h : a.i.den = b.i.den) : a.den = b.den := by
  rw [NE.i_den, NE.i_den] at h; omega
theorem eqV_sound (β : List Nat) : ∀ (a b : SV) (K : Prop), eqV a b K → a.vals β = b.vals β ∧ K := by
  intro a
  induction a with
  | int k x =>
    intro b K h
    cases b <;> try exact h.elim
    simp only [eqV] at h
    rename_i k' y
    cases hd : decide (k = k') <;> rw [hd] at h
    · exact h.elim
    · obtain ⟨h1, h2⟩ := eqI_sound h
      have := of_decide_eq_true hd
      exact ⟨by simp [SV.vals, h1, this], h2⟩
  | bool x =>
    intro b K h
    cases b <;> try exact h.elim
    obtain ⟨h1, h2⟩ := eqB_sound h
    exact ⟨by simp [SV.vals, h1], h2⟩
  | str x =>
    intro b K h
    cases b <;> try exact h.elim
    exact ⟨by simp [SV.vals, h.1], h.2⟩
  | ptr i o =>
    intro b K h
    cases b <;> try exact h.elim
    simp only [eqV] at h
    rename_i j o'
    cases hb : Nat.beq i j <;> rw [hb] at h
    · exact h.elim
    · obtain ⟨h1, h2⟩ := eqO_sound h
      have := beq_t hb
      exact ⟨by simp [SV.vals, h1, this], h2⟩
  | slice i o l c =>
    intro b K h
    cases b <;> try exact h.elim
    simp only [eqV] at h
    rename_i j o' l' c'
    cases hb : Nat.beq i j <;> rw [hb] at h
    · exact h.elim
    · obtain ⟨h1, h2⟩ := eqO_sound h
      obtain ⟨h3, h2⟩ := eqM_sound h2
      obtain ⟨h4, h2⟩ := eqM_sound h2
      have := beq_t hb
      exact ⟨by simp [SV.vals, h1, this, h3, h4], h2⟩
  | map i =>
    intro b K h
    cases b <;> try exact h.elim
    simp only [eqV] at h
    rename_i j
    cases hb : Nat.beq i j <;> rw [hb] at h
    · exact h.elim
    · have := beq_t hb
      exact ⟨by simp [SV.vals, this], h⟩
  | opq v =>
    intro b K h
    cases b <;> try exact h.elim
    exact ⟨by simp [SV.vals, h.1], h.2⟩
  | agg x ih =>
    intro b K h
    cases b <;> try exact h.elim
    obtain ⟨h1, h2⟩ := ih _ _ h
    exact ⟨by simp [SV.vals, h1], h2⟩
  | tup x ih =>
    intro b K h
    cases b <;> try exact h.elim
    obtain ⟨h1, h2⟩ := ih _ _ h
    exact ⟨by simp [SV.vals, h1], h2⟩
  | cons x y ihx ihy =>
    intro b K h
    cases b <;> try exact h.elim
    obtain ⟨h1, h⟩ := ihx _ _ h
    obtain ⟨h2, h⟩ := ihy _ _ h
    exact ⟨by simp [SV.vals, h1, h2], h⟩
  | run k n xs =>
    intro b K h
    cases b <;> try exact h.elim
    simp only [eqV] at h
    rename_i k' n' ys
    cases hd : decide (k = k') <;> rw [hd] at h
    · exact h.elim
    · have := of_decide_eq_true hd
      exact ⟨by simp [SV.vals, h.1, this], h.2⟩
  | blob n vs =>
    intro b K h
    cases b <;> try exact h.elim
    exact ⟨by simp [SV.vals, h.1], h.2⟩
  | gsl x l c =>
    intro b K h
    cases b <;> try exact h.elim
    obtain ⟨h1, h⟩ := h
    obtain ⟨h2, h⟩ := eqM_sound h
    obtain ⟨h3, h⟩ := eqM_sound h
    exact ⟨by simp [SV.vals, h1, h2, h3], h⟩
  | gptr x o =>
    intro b K h
    cases b <;> try exact h.elim
    exact ⟨by simp [SV.vals, h.1, h.2.1], h.2.2⟩
  | nilptr => intro b K h; cases b <;> first | exact ⟨rfl, h⟩ | exact h.elim
  | nilslice => intro b K h; cases b <;> first | exact ⟨rfl, h⟩ | exact h.elim
  | nilmap => intro b K h; cases b <;> first | exact ⟨rfl, h⟩ | exact h.elim
  | nil => intro b K h; cases b <;> first | exact ⟨rfl, h⟩ | exact h.elim
  | _ => intro b K h; cases b <;> exact h.elim

/-- A load that was done early: the operation, its type, its address, what it came to. -/
structure Wt where
  i : Nat
  t : TypeId
  x : SV
  v : SV
def Wt.I (P : Program) (β : List Nat) (y : Wt) : Watch := (y.i, Loads P y.t (y.x.val β) (y.v.val β))
def Wt.wf (n : Nat) (y : Wt) : Prop := y.x.wf n ∧ y.v.wf n
def aliveT (ops : Array Oper) (j : Nat) : List Wt → List Wt
  | [] => []
  | y :: r => bif waitsFor ops j y.i then aliveT ops j r else y :: aliveT ops j r
/-- All that was loaded early is still there. -/
def checkW (P : Program) (hp : Hp) : List Wt → Prop → Prop
  | [], K => K
  | y :: r, K => xLoad P y.t y.x hp fun v => eqV v y.v (checkW P hp r K)

section
variable {C : Cfg} {F : Fr} {β : List Nat} {hp : Hp} {w : World}
theorem aliveT_map (ops : Array Oper) (j : Nat) (P : Program) (β : List Nat) : ∀ W : List Wt, alive ops j (W.map (Wt.I P β)) = (aliveT ops j W).map (Wt.I P β)
  | [] => rfl
  | y :: r => by
    have ih := aliveT_map ops j P β r
    simp only [alive] at ih
    simp only [alive, List.map_cons, aliveT]
    have hi : (Wt.I P β y).1 = y.i := rfl
    rw [List.filter_cons, hi, ih]
    cases waitsFor ops j y.i <;> rfl
theorem aliveT_mem {ops : Array Oper} {j : Nat} {y : Wt} : ∀ {W : List Wt}, y ∈ aliveT ops j W → y ∈ W
  | z :: r, h => by
    simp only [aliveT] at h
    cases hw : waitsFor ops j z.i <;> rw [hw] at h
    · rcases List.mem_cons.1 h with rfl | h
      · exact List.mem_cons_self
      · exact List.mem_cons_of_mem _ (aliveT_mem h)
    · exact List.mem_cons_of_mem _ (aliveT_mem h)
theorem Wt.I_append {y : Wt} (h : y.wf β.length) (P : Program) (γ : List Nat) : y.I P (β ++ γ) = y.I P β := by
  simp [Wt.I, SV.val_append β γ _ h.1, SV.val_append β γ _ h.2]
theorem map_append {W : List Wt} (h : ∀ y ∈ W, y.wf β.length) (P : Program) (γ : List Nat) : W.map (Wt.I P (β ++ γ)) = W.map (Wt.I P β) :=
  List.map_congr_left fun y hy => Wt.I_append (h y hy) P γ
theorem checkW_sound {P : Program} (hS : Sat F β hp w) : ∀ {W : List Wt} {K : Prop}, checkW P hp W K → holdW (W.map (Wt.I P β)) w ∧ K
  | [], K, h => ⟨fun x hx => (by cases hx), h⟩
  | y :: r, K, h => by
    obtain ⟨sv, h1, h2, h3, h4⟩ := xLoad_loads hS h
    obtain ⟨h5, h6⟩ := eqV_sound β _ _ _ h1
    obtain ⟨h7, h8⟩ := checkW_sound hS h6
    refine ⟨fun x hx => ?_, h8⟩
    rcases List.mem_cons.1 hx with rfl | hx
    · have := h4 w hS
      rw [show sv.val β = y.v.val β by simp [SV.val, h5]] at this
      exact this
    · exact h7 x hx
theorem Loads.ext {P : Program} {t : TypeId} {x v : Value} {w w' : World} (h : Loads P t x v w) (he : Ext w w') : Loads P t x v w' := by
  obtain ⟨b, o, vs, h1, h2, h3⟩ := h
  refine ⟨b, o, vs, h1, fun j u hj => ?_, h3⟩
  have := h2 j u hj
  unfold World.cell? at this ⊢
  split at this
  · rename_i cs e fz hb
    rw [he.heap _ _ hb]
    exact this
  · cases this

/-! ### All orders -/

def guardAt (ops : Array Oper) (T : Tm) (g : Option (Nat × Bool)) : Bool :=
  match g with
  | none => true
  | some (j, _) => (match dstOf ops j with
    | some t => (match nth T t with
      | .bool _ => true
      | .opq (.tuple _) => true
      | _ => false)
    | none => false)
/-- What may be done first: what only computes (0), a load (1). -/
def firstAt (P : Program) (ops : Array Oper) (T : Tm) (i : Nat) : Option Bool :=
  match ops[i]? with
  | some o => bif guardAt ops T o.guard then (match o.op with
      | .load .. => some true
      | op => (match kindOf P op with
        | .pure => some false
        | _ => none))
    else none
  | none => none
def firstP (P : Program) (ops : Array Oper) (listed : Array Bool) (T : Tm) (ld : Bool) : List Nat → Option Nat
  | [] => none
  | i :: r => (match firstAt P ops T i with
    | some b => bif Bool.and (bif b then ld else !ld) (Region.free .any ops listed i) then some i else firstP P ops listed T ld r
    | none => firstP P ops listed T ld r)
theorem firstP_sound {P : Program} {ops : Array Oper} {listed : Array Bool} {T : Tm} {ld : Bool} {i : Nat} : ∀ {rs : List Nat}, firstP P ops listed T ld rs = some i → i ∈ rs ∧ Region.free .any ops listed i = true
  | [], h => (by cases h)
  | j :: r, h => by
    simp only [firstP] at h
    split at h
    · rename_i b hb
      cases hc : Bool.and (bif b then ld else !ld) (Region.free .any ops listed j) <;> rw [hc] at h
      · obtain ⟨h1, h2⟩ := firstP_sound h
        exact ⟨List.mem_cons_of_mem _ h1, h2⟩
      · obtain rfl : j = i := Option.some.inj h
        exact ⟨List.mem_cons_self, (Bool.and_eq_true_iff.1 hc).2⟩
    · obtain ⟨h1, h2⟩ := firstP_sound h
      exact ⟨List.mem_cons_of_mem _ h1, h2⟩

/-- Each of some. -/
def eachK : List Nat → (Nat → Prop) → Prop
  | [], _ => True
  | [i], f => f i
  | i :: r, f => f i ∧ eachK r f
theorem eachK_mem {f : Nat → Prop} : ∀ {l : List Nat}, eachK l f → ∀ i ∈ l, f i
  | [i], h, j, hj => by obtain rfl := List.mem_singleton.1 hj; exact h
  | i :: k :: r, h, j, hj => by
    rcases List.mem_cons.1 hj with rfl | hj
    · exact h.1
    · exact eachK_mem h.2 j hj

def xAny (C : Cfg) (call : Nat → SpecT) (ops : Array Oper) : Nat → List Wt → Array Bool → Tm → Hp → (Tm → Hp → Prop) → Prop
  | 0, _, listed, T, hp, K => (match Region.ready .any ops listed with
    | [] => K T hp
    | _ => False)
  | fuel + 1, W, listed, T, hp, K => (match Region.ready .any ops listed with
    | [] => K T hp
    | rs => (match firstP C.P ops listed T false rs with
      | some i => (match ops[i]? with
        | some o => guardK ops T o.guard
          (fun T => xPure C.P C.zt o.op (ev T) fun v => xAny C call ops fuel W (listed.setIfInBounds i true) (putT T o.dst v) hp K)
          (fun T => xAny C call ops fuel W (listed.setIfInBounds i true) (putT T o.dst (.opq undef)) hp K)
        | none => False)
      | none => (match firstP C.P ops listed T true rs with
        | some i => (match ops[i]? with
          | some o => guardK ops T o.guard
            (fun T' => (match o.op with
              | .load t a => xLoad C.P t (ev T' a) hp fun v => xAny C call ops fuel (⟨i, t, ev T' a, v⟩ :: W) (listed.setIfInBounds i true) (putT T' o.dst v) hp K
              | _ => False))
            (fun T => xAny C call ops fuel W (listed.setIfInBounds i true) (putT T o.dst (.opq undef)) hp K)
          | none => False)
        | none => eachK rs fun i => (match ops[i]? with
          | some o => guardK ops T o.guard
            (fun T => xOper C call o.op (ev T) hp fun v hp' =>
              bif mildOp o.op then xAny C call ops fuel (aliveT ops i W) (listed.setIfInBounds i true) (putT T o.dst v) hp' K
              else checkW C.P hp' (aliveT ops i W) (xAny C call ops fuel (aliveT ops i W) (listed.setIfInBounds i true) (putT T o.dst v) hp' K))
            (fun T => xAny C call ops fuel (aliveT ops i W) (listed.setIfInBounds i true) (putT T o.dst (.opq undef)) hp K)
          | none => False))))

theorem wpC_done {ops : Array Oper} {P : Program} {Q : Exit → Act → World → Prop} {W : List Watch} {listed : Array Bool} {a : Act} {w : World} (hr : Region.ready .any ops listed = []) (h : Q .normal a w) :
    ∀ fuel, wpC P ops Q fuel W listed a w
  | 0 => ⟨hr, h⟩
  | _ + 1 => ⟨fun _ => h, by rw [hr]; simp⟩

/-- An operation with what its own world's sequel is. -/
theorem xOper_mild {P : Program} {o : Oper} {a : Act} {w : World} {next : Act → World → Prop} {Q : Exit → Act → World → Prop} (hm : mildOp o.op = true) (h : o.wp P a w next Q) :
    o.wp P a w (fun a' w' => next a' w' ∧ Ext w w') Q := by
  unfold Oper.wp at *
  cases hr : (execOp a.eval o).run P w with
  | ok n w' =>
    obtain ⟨he, v, rfl⟩ := mildOp_sound hm a.eval hr
    rw [hr] at h
    exact ⟨h, he⟩
  | halt x w' => rw [hr] at h; cases x <;> exact h

theorem xAny_sound (hC : CfgOk C) {call : Nat → SpecT} (hcall : CallOk C.P call) {ops : Array Oper} (hsel : Region.noSelect ops = true) {R : Act → World → Prop} : ∀ (fuel : Nat) (W : List Wt) (listed : Array Bool) (β : List Nat) (T : Tm) (hp : Hp) (a : Act) (w : World) (K : Tm → Hp → Prop),
    TOk β T a → Sat F β hp w → (∀ y ∈ W, y.wf β.length) → holdW (W.map (Wt.I C.P β)) w → xAny C call ops fuel W listed T hp K → (∀ a w, Post F β K a w → R a w) → wpC C.P ops (Qn R) fuel (W.map (Wt.I C.P β)) listed a w := by
  intro fuel
  induction fuel with
  | zero =>
    intro W listed β T hp a w K hT hS hW hH h hR
    simp only [xAny] at h
    split at h
    · rename_i hr
      exact wpC_done hr (hR _ _ ⟨[], T, hp, by simpa using hT, by simpa using hS, h⟩) 0
    · exact h.elim
  | succ fuel ih =>
    intro W listed β T hp a w K hT hS hW hH h hR
    simp only [xAny] at h
    split at h
    · rename_i hr
      exact wpC_done hr (hR _ _ ⟨[], T, hp, by simpa using hT, by simpa using hS, h⟩) _
    · rename_i rs hne
      have hal : ∀ i, holdW (alive ops i (W.map (Wt.I C.P β))) w := fun i x hx => hH x (List.mem_filter.1 hx).1
      -- what is done first, and is watched no more
      have first : ∀ (i : Nat) (o : Oper) (v : Value) (T' : Tm), ops[i]? = some o → i ∈ Region.ready .any ops listed → Region.free .any ops listed i = true → YI C.P ops o v (fun _ => True) a →
          TOk β T' (a.put o.dst v) → xAny C call ops fuel W (listed.setIfInBounds i true) T' hp K → wpC C.P ops (Qn R) (fuel + 1) (W.map (Wt.I C.P β)) listed a w := by
        intro i o v T' ho hmem hfree hy hT' hx
        refine wpC_first ho (Region.noSelect_spec hsel) (fun _ _ _ h => h) fuel _ listed a w (Region.free_spec ho hfree) hmem hy trivial (hal i) ?_
        refine wpC_sub fuel (fun x hx => ?_) (ih W _ β T' hp _ w K hT' hS hW hH hx hR)
        rcases List.mem_cons.1 hx with rfl | hx
        · exact .inr fun _ => trivial
        · exact .inl hx
      split at h
      · rename_i i hi
        obtain ⟨hmem, hfree⟩ := firstP_sound hi
        split at h
        · rename_i o ho
          obtain ⟨T', hT', hg⟩ := guardK_sound hT h
          rcases hg with ⟨hw, hr⟩ | ⟨hw, hs⟩
          · obtain ⟨sv, h1, h2, h3, h4⟩ := xPure_sound hC.z hT'.ev hr
            exact first i o _ _ ho hmem hfree (.inl ⟨hw, fun w _ => h4 w⟩) (hT'.put o.dst h2 h3) h1
          · exact first i o _ _ ho hmem hfree (.inr ⟨hw, rfl⟩) (hT'.put o.dst (x := .opq undef) rfl trivial) hs
        · exact h.elim
      · split at h
        · rename_i i hi
          obtain ⟨hmem, hfree⟩ := firstP_sound hi
          split at h
          · rename_i o ho
            obtain ⟨T', hT', hg⟩ := guardK_sound hT h
            rcases hg with ⟨hw, hr⟩ | ⟨hw, hs⟩
            · split at hr
              · rename_i t x hop
                obtain ⟨sv, h1, h2, h3, h4⟩ := xLoad_loads hS hr
                have hx := hT'.ev x
                refine wpC_first (v := sv.val β) (I := Loads C.P t ((ev T' x).val β) (sv.val β)) ho (Region.noSelect_spec hsel) (fun _ _ _ h => h) fuel _ listed a w (Region.free_spec ho hfree) hmem
                  (.inl ⟨hw, fun w' hw' => ?_⟩) (h4 w hS) (hal i) ?_
                · simp only [execOp, hop, hx.2.2]
                  exact run_value hw'.run
                · have := ih (⟨i, t, ev T' x, sv⟩ :: W) (listed.setIfInBounds i true) β _ hp _ w K (hT'.put o.dst h2 h3) hS (fun y hy => ?_) (fun y hy => ?_) h1 hR
                  · exact this
                  · rcases List.mem_cons.1 hy with rfl | hy
                    · exact ⟨hx.2.1, h3⟩
                    · exact hW y hy
                  · rcases List.mem_cons.1 hy with rfl | hy
                    · exact h4 w hS
                    · exact hH y hy
              · exact hr.elim
            · exact first i o _ _ ho hmem hfree (.inr ⟨hw, rfl⟩) (hT'.put o.dst (x := .opq undef) rfl trivial) hs
          · exact h.elim
        · refine ⟨fun h0 => absurd h0 hne, fun i hi => ?_⟩
          have h' := eachK_mem h i hi
          have hWa : ∀ y ∈ aliveT ops i W, y.wf β.length := fun y hy => hW y (aliveT_mem hy)
          rw [aliveT_map]
          have hal' := hal i
          rw [aliveT_map] at hal'
          split at h'
          · rename_i o ho
            obtain ⟨T', hT', hg⟩ := guardK_sound hT h'
            unfold wpOp
            rw [ho]
            simp only
            rcases hg with ⟨hw, hr⟩ | ⟨hw, hs⟩
            · rw [if_pos hw]
              refine .inl ?_
              cases hm : mildOp o.op <;> rw [hm] at hr
              · refine xOper_sound hC hcall hS hT'.ev hr fun v w' hy => ?_
                obtain ⟨γ, sv, hp', k1, k2, k3, rfl, k5⟩ := hy
                have hW' : ∀ y ∈ aliveT ops i W, y.wf (β ++ γ).length := fun y hy => ⟨SV.wf_mono (by simp) _ (hWa y hy).1, SV.wf_mono (by simp) _ (hWa y hy).2⟩
                obtain ⟨c1, c2⟩ := checkW_sound k1 k5
                have := ih (aliveT ops i W) _ (β ++ γ) _ hp' (a.put o.dst (sv.val (β ++ γ))) w' K ((hT'.append (γ := γ)).put o.dst k2 k3) k1 hW' c1 c2 fun a w h => hR a w h.later
                rw [map_append hWa] at c1 this
                exact ⟨c1, this⟩
              · have := xOper_mild (next := fun a' w' => ∃ v, a' = a.put o.dst v ∧ Yld F β (fun sv hp' => xAny C call ops fuel (aliveT ops i W) (listed.setIfInBounds i true) (putT T' o.dst sv) hp' K) v w') (Q := Qn R) hm
                  (xOper_sound hC hcall hS hT'.ev hr fun v w' hy => ⟨v, rfl, hy⟩)
                refine Oper.wp_mono ?_ this
                rintro _ w' ⟨⟨v, rfl, γ, sv, hp', k1, k2, k3, rfl, k5⟩, he⟩
                have hW' : ∀ y ∈ aliveT ops i W, y.wf (β ++ γ).length := fun y hy => ⟨SV.wf_mono (by simp) _ (hWa y hy).1, SV.wf_mono (by simp) _ (hWa y hy).2⟩
                have c1 : holdW ((aliveT ops i W).map (Wt.I C.P β)) w' := fun x hx => by
                  have := hal' x hx
                  obtain ⟨y, _, rfl⟩ := List.mem_map.1 hx
                  exact this.ext he
                have := ih (aliveT ops i W) _ (β ++ γ) _ hp' (a.put o.dst (sv.val (β ++ γ))) w' K ((hT'.append (γ := γ)).put o.dst k2 k3) k1 hW' (by rw [map_append hWa]; exact c1) k5 fun a w h => hR a w h.later
                rw [map_append hWa] at this
                exact ⟨c1, this⟩
            · rw [if_neg (by rw [hw]; simp)]
              exact ⟨hal', ih _ _ β _ hp _ w K (hT'.put o.dst (x := .opq undef) rfl trivial) hS hWa hal' hs hR⟩
          · exact h'.elim

/-! ### A region -/
inductive DrawBy where
  | quiet
  | tail (n : Nat)
  | any
def quietAll (C : Cfg) : List Oper → Bool
  | [] => true
  | o :: r => (match kindOf C.P o.op with
    | .pure | .read => true
    | .act => false
    | .call => isQ C.qs o.op) && quietAll C r
def headN (P : Program) : List Oper → Nat → Nat
  | [], n => n
  | o :: r, n => (match kindOf P o.op with
    | .pure | .read => headN P r (n + 1)
    | _ => n)
def drawBy (C : Cfg) (ops : Array Oper) : DrawBy :=
  bif quietAll C ops.toList && Region.lexB .any ops then .quiet
  else (let n := headN C.P ops.toList 0
    bif Region.lexTailB .any ops n then .tail n else .any)

def xRegion (C : Cfg) (call : Nat → SpecT) (ops : Array Oper) (draw : Bool) (T : Tm) (hp : Hp) (K : Tm → Hp → Prop) : Prop :=
  bif draw then (match drawBy C ops with
    | .quiet => bif Region.lexB .any ops then xQops C ops ops.toList T hp fun T => K T hp else False
    | .tail n => bif Region.lexTailB .any ops n then xSops C ops (ops.toList.take n) T hp fun T => xOps C call ops (ops.toList.drop n) T hp K else False
    | .any => bif Region.noSelect ops then xAny C call ops ops.size [] (Array.replicate ops.size false) T hp K else False)
  else xOps C call ops ops.toList T hp K

theorem xRegion_sound (hC : CfgOk C) {call : Nat → SpecT} (hcall : CallOk C.P call) {id : Nat} {ops : Array Oper} {draw : Bool} {T : Tm} {a : Act} {K : Tm → Hp → Prop} {R : Act → World → Prop} (hT : TOk β T a) (hS : Sat F β hp w)
    (h : xRegion C call ops draw T hp K) (hR : ∀ a w, Post F β K a w → R a w) : (Code.region id ops draw).wp C.P (Qn R) a w := by
  unfold xRegion at h
  have hS' : Sat F β hp { w with drawn := w.drawn + 1 } := hS.drew _
  cases draw
  · refine wp_region ?_
    have := xOps_sound (R := R) hC hcall ops.toList β T hp a w K hT hS h hR
    have heq := wpOps_eq_wpList (P := C.P) (Q := Qn R) (ops := ops) ops.toList 0 (fun j => by simp)
    rw [List.range_eq_range', show ops.size = ops.toList.length from by simp, heq]
    exact this
  · simp only [cond_true] at h
    split at h
    · cases hb : Region.lexB .any ops <;> rw [hb] at h
      · exact h.elim
      · refine wp_region_quiet (C := Ext { w with drawn := w.drawn + 1 }) hC.mixed hb (Ext.refl _) ?_
        exact xQops_sound hC hS' ops.toList T a _ hT h fun T' a' hT' hK w' hw' => hR _ _ ⟨[], T', hp, by simpa using hT', by simpa using hS'.extend hw', hK⟩
    · rename_i n _
      cases hb : Region.lexTailB .any ops n <;> rw [hb] at h
      · exact h.elim
      · have := wp_region_still_tail (P := C.P) (id := id) (Q := Qn R) (a := a) (w := w) (l := ops.toList) n hC.mixed (by simpa using hb) ?_
        · simpa using this
        · have := xSops_sound (ops := ops.toList.toArray) hC hS' (R := fun a' => wpList C.P ops.toList.toArray (Qn R) (ops.toList.drop n) a' { w with drawn := w.drawn + 1 }) (ops.toList.take n) T a _ hT (by simpa using h)
            (fun T' a' hT' hK => xOps_sound hC hcall _ β T' hp a' _ K hT' hS' (by simpa using hK) hR)
          exact this
    · cases hb : Region.noSelect ops <;> rw [hb] at h
      · exact h.elim
      · exact wp_region_any hC.mixed (wpC_any _ (xAny_sound hC hcall hb _ [] _ β T hp a _ K hT hS' (fun y hy => (by cases hy)) (fun x hx => (by cases hx)) h hR))
end
end Vx
