/- Functions and loops by what they do. -/
import Derived.Test.YtafngdeeachggaaGreatVxCon
set_option linter.unusedVariables false
set_option linter.unusedSimpArgs false
namespace Vx
open Go

/-- What a function does: for each x with 'pre', of arguments and a heap of this pattern, some y with 'post' and a result and a heap of that one. Names below n are the arguments'; from n to m - 1 they are new. -/
structure Con where
  X : Type
  n : Nat
  args : X → List SV
  heap : X → List (Nat × SObj)
  G : X → Nat → Option Obj
  pre : X → Prop
  Y : Type
  m : Nat
  post : X → Y → Prop
  res : X → Y → SV
  heap' : X → Y → List (Nat × SObj)
  G' : X → Y → Nat → Option Obj

def idN : Nat → Nm
  | 0 => []
  | n + 1 => (n, n) :: idN n
/-- How a call of it is followed. -/
def Con.spec (S : Con) : SpecT := fun args hp K => ∃ x : S.X, mState S.n (S.args x) args (S.heap x) (S.G x) hp [] fun r =>
  bif allN S.n r && Nat.ble S.n S.m then S.pre x ∧ ∀ y : S.Y, S.post x y →
    K ((S.res x y).ren (real S.n hp.n r)) ⟨hp.n + (S.m - S.n), renH (real S.n hp.n r) (heapOf (S.heap' x y)) ++ goneH (fpOf (S.heap x) r) hp.H, [], S.G' x y⟩
  else False
/-- What has to be shown of its text. -/
def Con.Vc (S : Con) (twin : SpecT) : Prop := ∀ x : S.X, S.pre x →
  twin (S.args x) ⟨S.n, heapOf (S.heap x), [], S.G x⟩ fun v hp' => ∃ y : S.Y, S.post x y ∧ mState S.m [S.res x y] [v] (S.heap' x y) (S.G' x y) hp' (idN S.n) fun r => bif allN S.m r then True else False

/-- One function's specification says what is so. -/
def SpecOk (P : Program) (f : Nat) (s : SpecT) : Prop :=
  ∀ args hp K, s args hp K → (∀ vs w, (callFunc f vs).run P w = .ok (.enter f vs) w) ∧
    ∀ F β w, Sat F β hp w → (∀ x ∈ args, x.one = true ∧ x.wf β.length) → Calls P f (args.map (SV.val β)).toArray w (fun e w' => ∃ v, e = .returned v ∧ Yld F β K v w')
theorem callOk_iff {P : Program} {call : Nat → SpecT} : CallOk P call ↔ ∀ f, SpecOk P f (call f) := Iff.rfl
def noSpec : SpecT := fun _ _ _ => False
theorem noSpec_ok (P : Program) (f : Nat) : SpecOk P f noSpec := fun _ _ _ h => h.elim

theorem findN_idN {n i j : Nat} : findN i (idN n) = some j → i = j ∧ i < n := by
  induction n with
  | zero => intro h; cases h
  | succ n ih =>
    intro h
    simp only [idN, findN] at h
    cases hb : Nat.beq n i <;> rw [hb] at h
    · obtain ⟨h1, h2⟩ := ih h
      exact ⟨h1, by omega⟩
    · have := beq_t hb
      cases h
      exact ⟨this.symm, by omega⟩
theorem idN_find {n i : Nat} (h : i < n) : findN i (idN n) = some i := by
  induction n with
  | zero => omega
  | succ n ih =>
    simp only [idN, findN]
    by_cases he : n = i
    · subst he; rw [beq_self]; rfl
    · rw [beq_ne he]; exact ih (by omega)
theorem idN_ok (n m k : Nat) (hm : n ≤ m) (hk : n ≤ k) : NmOk m k (idN n) := fun i j h => by
  obtain ⟨rfl, h2⟩ := findN_idN h
  exact ⟨by omega, by omega⟩

section
variable {P : Program}
/-- A function that does what is said. -/
theorem Con.sound {S : Con} {f : Nat} {twin : SpecT} (ht : SpecOk P f twin) (hv : S.Vc twin) : SpecOk P f S.spec := by
  intro args hp K h
  obtain ⟨x, h⟩ := h
  refine ⟨?_, fun F β w hS ha => ?_⟩
  · -- what the call enters does not hang on the arguments
    have : S.pre x := by
      obtain ⟨r1, h1, _⟩ := mArgs_sound _ _ _ _ h
      obtain ⟨r2, h2, _⟩ := mHeap_sound _ _ _ _ h1
      cases hi : injB r2 <;> rw [hi] at h2
      · exact h2.elim
      · have h3 : (bif (allN S.n r2 && Nat.ble S.n S.m) then _ else False) := h2.2
        cases hb : (allN S.n r2 && Nat.ble S.n S.m) <;> rw [hb] at h3
        · exact h3.elim
        · exact h3.1
    exact (ht _ _ _ (hv x this)).1
  · have hw : ∀ b ∈ args, b.wf β.length := fun b hb => (ha b hb).2
    obtain ⟨r, h1, _, hok, _, hargs, hone, hSc⟩ := mState_sound hS h (fun i j h => (by cases h)) hw
    cases hb : (allN S.n r && Nat.ble S.n S.m) <;> rw [hb] at h1
    · exact h1.elim
    · simp only [Bool.and_eq_true] at hb
      obtain ⟨hall, hnm⟩ := hb
      have hnm := Nat.le_of_ble_eq_true hnm
      obtain ⟨hpre, hK⟩ := h1
      have hcall := (ht _ _ _ (hv x hpre)).2 (F.off β hp (fpOf (S.heap x) r) w) (namesOf S.n r β) w hSc (by rw [namesOf_length]; exact hone)
      rw [hargs] at hcall
      refine hcall.mono ?_
      rintro e w' ⟨v, rfl, γ, sv, hp', k1, k2, k3, rfl, y, hpost, k5⟩
      refine ⟨_, rfl, ?_⟩
      -- the result, in the names of the pattern
      have hlen : S.n ≤ (namesOf S.n r β ++ γ).length := by simp [namesOf_length]
      obtain ⟨r', c1, c2, c3, _, c5, c6, c7⟩ := mState_sound k1 k5 (idN_ok _ _ _ hnm hlen) (fun b hb => by rw [List.mem_singleton.1 hb]; exact k3)
      have hall' : allN S.m r' = true := by
        cases hb : allN S.m r' <;> rw [hb] at c1
        exact c1.elim
      have c7 := Sat.unoff k1 c7
      have hm := real_means (f := S.n) (r := r) (β := β) (δ := namesOf S.m r' (namesOf S.n r β ++ γ)) (by rw [namesOf_length]; exact hnm) hall hok fun i j hi hj => by
        rw [namesOf_blk (by omega) (c2 i i (idN_find hi)), blk_append (by rw [namesOf_length]; exact hi), namesOf_blk hi hj]
      have hn := hS.n
      have hback := Sat.back hS c7 hm (n := hp.n + (S.m - S.n)) (by simp [namesOf_length, hn])
      rw [← hn] at hback hm
      have hres := hone
      obtain ⟨q1, q2⟩ := c6 (S.res x y) (List.mem_singleton.2 rfl)
      have q2' : (S.res x y).wf (namesOf S.m r' (namesOf S.n r β ++ γ)).length := by rw [namesOf_length]; exact q2
      obtain ⟨p1, p2⟩ := SV.ren_vals hm (S.res x y) q2'
      refine ⟨_, _, _, hback, by rw [SV.ren_one]; exact q1, p2, ?_, hK y hpost⟩
      have c5' : (S.res x y).val (namesOf S.m r' (namesOf S.n r β ++ γ)) = sv.val (namesOf S.n r β ++ γ) := by simpa using c5
      rw [← c5']
      simp [SV.val, p1]

/-! ### Loops -/

/-- A loop: at its head, for some x with 'inv', these temporaries and this heap; the names below f never change what they stand for. -/
structure LoopS where
  X : Type
  f : Nat
  m : Nat
  tmps : X → List (Nat × SV)
  heap : X → List (Nat × SObj)
  G : X → Nat → Option Obj
  inv : X → Prop
  mea : X → Nat

def tmpIds : List (Nat × SV) → List Nat
  | [] => []
  | (t, _) :: l => t :: tmpIds l
def tmpVals : List (Nat × SV) → List SV
  | [] => []
  | (_, x) :: l => x :: tmpVals l
/-- The temporaries of a pattern, as they are now. -/
def nthL (T : Tm) : List (Nat × SV) → List SV
  | [] => []
  | (t, _) :: l => nth T t :: nthL T l
def mHead (S : LoopS) (x : S.X) (T : Tm) (hp : Hp) (r : Nm) (K : Nm → Prop) : Prop :=
  mState S.m (tmpVals (S.tmps x)) (nthL T (S.tmps x)) (S.heap x) (S.G x) hp r fun r => bif allN S.m r then K r else False

def backHp (S : LoopS) (x0 : S.X) (hp : Hp) (r : Nm) (hp' : Hp) : Hp :=
  ⟨hp.n + (hp'.n - S.f), renH (real S.f hp.n r) hp'.H ++ goneH (fpOf (S.heap x0) r) hp.H, [], hp'.G⟩
def LoopS.twin (S : LoopS) : LoopT := fun bx T hp K => ∃ x0 : S.X, mHead S x0 T hp [] fun r =>
  bif Nat.ble S.f S.m then S.inv x0 ∧ ∀ x : S.X, S.inv x → ∀ d : Nat → Value, bx ⟨T.n, S.tmps x, d⟩ ⟨S.m, heapOf (S.heap x), [], S.G x⟩ fun e T' hp' => (match e with
    | .normal => bif Nat.beq T'.n T.n then ∃ x' : S.X, S.inv x' ∧ S.mea x' < S.mea x ∧ mHead S x' T' hp' (idN S.f) (fun _ => True) else False
    | e => K e (renT (real S.f hp.n r) T') (backHp S x0 hp r hp'))
  else False

theorem nthL_mem {T : Tm} : ∀ {l : List (Nat × SV)} {b : SV}, b ∈ nthL T l → ∃ t, b = nth T t
  | (t, _) :: l, b, h => by
    rcases List.mem_cons.1 h with rfl | h
    · exact ⟨t, rfl⟩
    · exact nthL_mem h
/-- The temporaries at a loop's head. -/
theorem tok_head {β : List Nat} {T : Tm} {a : Act} {β' : List Nat} (hT : TOk β T a) : ∀ (l : List (Nat × SV)), (∀ x ∈ tmpVals l, x.one = true ∧ x.wf β'.length) →
    (tmpVals l).map (SV.val β') = (nthL T l).map (SV.val β) → TOk β' ⟨T.n, l, fun t => a.tmps.getD t undef⟩ a := by
  intro l h1 h2
  have key : ∀ (l : List (Nat × SV)), (∀ x ∈ tmpVals l, x.one = true ∧ x.wf β'.length) → (tmpVals l).map (SV.val β') = (nthL T l).map (SV.val β) →
      ∀ t, (look (fun t => a.tmps.getD t undef) t l).one = true ∧ (look (fun t => a.tmps.getD t undef) t l).wf β'.length ∧ (t < T.n → a.tmps[t]? = some ((look (fun t => a.tmps.getD t undef) t l).val β')) := by
    intro l
    induction l with
    | nil =>
      intro _ _ t
      refine ⟨rfl, trivial, fun ht => ?_⟩
      have hlt : t < a.tmps.size := by rw [hT.size]; exact ht
      simp [look, SV.val, SV.vals, hlt]
    | cons e l ih =>
      obtain ⟨j, x⟩ := e
      intro h1 h2 t
      simp only [tmpVals, nthL, List.map_cons, List.cons.injEq] at h2
      have ih := ih (fun y hy => h1 y (List.mem_cons_of_mem _ hy)) h2.2 t
      simp only [look]
      by_cases hj : j = t
      · subst hj
        rw [beq_self, cond_true]
        obtain ⟨g1, g2⟩ := h1 x List.mem_cons_self
        refine ⟨g1, g2, fun ht => ?_⟩
        have h3 := h2.1
        rw [h3]
        unfold nth
        rw [blt_of ht, cond_true]
        exact hT.tmps j ht
      · rw [beq_ne hj, cond_false]
        exact ih
  exact ⟨hT.size, fun t ht => (key l h1 h2 t).2.2 ht, fun t => ⟨(key l h1 h2 t).1, (key l h1 h2 t).2.1⟩, hT.defers⟩

theorem nth_ok {β : List Nat} {T : Tm} {a : Act} (h : TOk β T a) (t : Nat) : (nth T t).wf β.length := by
  unfold nth
  cases Nat.blt t T.n
  · trivial
  · exact (h.ok t).2

/-- A way to go round that comes to an end. -/
def LoopR (P : Program) (L : LoopT) : Prop := ∀ c bx, BodyOk P c bx → ∀ (F : Fr) (β : List Nat) (T : Tm) (hp : Hp) (a : Act) (w : World) (K : KT), TOk β T a → Sat F β hp w → L bx T hp K → ∃ n, Code.rounds P c (QK F β K) n a w
theorem LoopR.ok {P : Program} {L : LoopT} (h : LoopR P L) : LoopOk P L := fun c bx hb F β T hp a w K hT hS hL =>
  let ⟨n, hn⟩ := h c bx hb F β T hp a w K hT hS hL
  wp_loop_rounds n hn
/-- One round, then such an end. -/
theorem wp_loop_first {Q : Exit → Act → World → Prop} {a : Act} {w : World} {c : Code} (h : c.wp P (Exit.then (fun a w => ∃ n, Code.rounds P c Q n a w) Q) a w) : (Code.loop c).wp P Q a w := by
  intro b k cs
  have rest : ∀ n a w, Code.rounds P c Q n a w → ∃ e a' w', Q e a' w' ∧ Arrives P (lone (b.at a (.code c :: .inLoop c :: k)) cs w) b k cs e a' w' := by
    intro n
    induction n with
    | zero => intro a w h; exact h.elim
    | succ n ih =>
      intro a w h
      obtain ⟨e, a₁, w₁, hq, harr⟩ := h b (.inLoop c :: k) cs
      cases e with
      | normal =>
        obtain ⟨e₂, a₂, w₂, hq₂, harr₂⟩ := ih a₁ w₁ hq
        exact ⟨e₂, a₂, w₂, hq₂, .of_steps (Steps.trans harr (.one step_inLoop)) harr₂⟩
      | exit id => exact ⟨_, a₁, w₁, hq, .pass (x := .inLoop c) rfl (fun _ _ => .inl (by simp)) harr⟩
      | goto l => exact ⟨_, a₁, w₁, hq, .pass (x := .inLoop c) rfl (fun _ _ => .inl (by simp)) harr⟩
      | ret => exact ⟨_, a₁, w₁, hq, .pass (x := .inLoop c) rfl (fun _ _ => .inl (by simp)) harr⟩
      | panic ch => exact ⟨_, a₁, w₁, hq, .pass (x := .inLoop c) rfl (fun _ _ => .inl (by simp)) harr⟩
      | outgrown => exact ⟨_, a₁, w₁, hq, .pass (x := .inLoop c) rfl (fun _ _ => .inl (by simp)) harr⟩
  obtain ⟨e, a₁, w₁, hq, harr⟩ := h b (.inLoop c :: k) cs
  cases e with
  | normal =>
    obtain ⟨n, hn⟩ := hq
    obtain ⟨e₂, a₂, w₂, hq₂, harr₂⟩ := rest n a₁ w₁ hn
    exact ⟨e₂, a₂, w₂, hq₂, .of_steps (.one step_loop) (.of_steps (Steps.trans harr (.one step_inLoop)) harr₂)⟩
  | exit id => exact ⟨_, a₁, w₁, hq, .of_steps (.one step_loop) (.pass (x := .inLoop c) rfl (fun _ _ => .inl (by simp)) harr)⟩
  | goto l => exact ⟨_, a₁, w₁, hq, .of_steps (.one step_loop) (.pass (x := .inLoop c) rfl (fun _ _ => .inl (by simp)) harr)⟩
  | ret => exact ⟨_, a₁, w₁, hq, .of_steps (.one step_loop) (.pass (x := .inLoop c) rfl (fun _ _ => .inl (by simp)) harr)⟩
  | panic ch => exact ⟨_, a₁, w₁, hq, .of_steps (.one step_loop) (.pass (x := .inLoop c) rfl (fun _ _ => .inl (by simp)) harr)⟩
  | outgrown => exact ⟨_, a₁, w₁, hq, .of_steps (.one step_loop) (.pass (x := .inLoop c) rfl (fun _ _ => .inl (by simp)) harr)⟩

theorem rounds_later {F : Fr} {β γ : List Nat} {K : KT} {c : Code} : ∀ (n : Nat) (a : Act) (w : World), Code.rounds P c (QK F (β ++ γ) K) n a w → Code.rounds P c (QK F β K) n a w
  | 0, _, _, h => h
  | n + 1, a, w, h => wp_mono (h : c.wp P (Exit.then (Code.rounds P c (QK F (β ++ γ) K) n) (QK F (β ++ γ) K)) a w) fun e a' w' hq => by
    cases e with
    | normal => exact rounds_later n a' w' hq
    | exit id => exact QK.later (e := .exit id) hq
    | ret => exact QK.later (e := .ret) hq
    | goto l => exact hq
    | panic c => exact hq
    | outgrown => exact hq

/-- The first round alone, then the rest. -/
def peel (L : LoopT) : LoopT := fun bx T hp K => bx T hp fun e T' hp' => (match e with
  | .normal => L bx T' hp' K
  | e => K e T' hp')
theorem peel_ok {L : LoopT} (hL : LoopR P L) : LoopOk P (peel L) := by
  intro c bx hb F β T hp a w K hT hS h
  refine wp_loop_first (wp_mono (hb F β T hp a w _ hT hS h) fun e a' w' hq => ?_)
  cases e with
  | normal =>
    obtain ⟨γ, T', hp', h1, h2, h3⟩ := hq
    obtain ⟨n, hn⟩ := hL c bx hb F (β ++ γ) T' hp' a' w' K h1 h2 h3
    exact ⟨n, rounds_later n a' w' hn⟩
  | exit id => exact hq
  | ret => exact hq
  | goto l => exact hq.elim
  | panic c => exact hq.elim
  | outgrown => exact hq.elim

/-- A loop with something that stays the same. -/
def famL {G : Type} (S : G → LoopS) : LoopT := fun bx T hp K => ∃ g, (S g).twin bx T hp K

theorem LoopS.okR (P : Program) (S : LoopS) : LoopR P S.twin := by
  intro c bx hb F β T hp a w K hT hS h
  obtain ⟨x0, h⟩ := h
  obtain ⟨r, h1, _, hok, _, hvals, hone, hSc⟩ := mState_sound hS h (fun i j h => (by cases h)) (fun b hb => by obtain ⟨t, rfl⟩ := nthL_mem hb; exact nth_ok hT t)
  cases hall : allN S.m r <;> rw [hall] at h1
  · exact h1.elim
  · cases hfm : Nat.ble S.f S.m <;> rw [hfm] at h1
    · exact h1.elim
    · have hfm := Nat.le_of_ble_eq_true hfm
      obtain ⟨hinv, hbody⟩ := h1
      have hn := hS.n
      have hallf : allN S.f r = true := List.all_eq_true.2 fun i hi => (List.all_eq_true.1 hall) i (List.mem_range.2 (by have := List.mem_range.1 hi; omega))
      -- round by round
      have go : ∀ (k : Nat) (x : S.X) (δ : List Nat) (a : Act) (w' : World), S.mea x < k → S.inv x → δ.length = S.m → (∀ i, i < S.f → blk δ i = blk (namesOf S.m r β) i) →
          TOk δ ⟨T.n, S.tmps x, fun t => a.tmps.getD t undef⟩ a → Sat (F.off β hp (fpOf (S.heap x0) r) w) δ ⟨S.m, heapOf (S.heap x), [], S.G x⟩ w' → Code.rounds P c (QK F β K) k a w' := by
        intro k
        induction k with
        | zero => intro x δ a w' hk; omega
        | succ k ih =>
          intro x δ a w' hk hix hδ hfix hTx hSx
          show c.wp P (Exit.then (Code.rounds P c (QK F β K) k) (QK F β K)) a w'
          refine wp_mono (hb (F.off β hp (fpOf (S.heap x0) r) w) δ _ _ a w' _ hTx hSx (hbody x hix _)) fun e a' w'' hq => ?_
          have out : ∀ (γ : List Nat) (T' : Tm) (hp' : Hp) (e : XE), TOk (δ ++ γ) T' a' → Sat (F.off β hp (fpOf (S.heap x0) r) w) (δ ++ γ) hp' w'' → K e (renT (real S.f hp.n r) T') (backHp S x0 hp r hp') → Post F β (K e) a' w'' := by
            intro γ T' hp' e g1 g2 g3
            have hm := real_means (f := S.f) (r := r) (β := β) (δ := δ ++ γ) (by simp; omega) hallf hok fun i j hi hj => by
              rw [blk_append (by omega), hfix i hi, namesOf_blk (by omega) hj]
            rw [← hn] at hm
            have hn' := g2.n
            exact ⟨_, _, _, g1.ren hm, Sat.back hS g2 hm (n := hp.n + (hp'.n - S.f)) (by simp [hn, hn']), g3⟩
          cases e with
          | normal =>
            obtain ⟨γ, T', hp', g1, g2, hq⟩ := hq
            cases htn : Nat.beq T'.n T.n <;> simp only [htn] at hq
            · exact hq.elim
            obtain ⟨x', g3, g4, g5⟩ := hq
            have htn := beq_t htn
            obtain ⟨r', c1, c2, c3, _, c5, c6, c7⟩ := mState_sound g2 g5 (idN_ok _ _ _ hfm (by simp; omega)) (fun b hb => by obtain ⟨t, rfl⟩ := nthL_mem hb; exact nth_ok g1 t)
            have hall' : allN S.m r' = true := by
              cases hb : allN S.m r' <;> rw [hb] at c1
              exact c1.elim
            have c7 := Sat.unoff g2 c7
            refine ih x' (namesOf S.m r' (δ ++ γ)) a' w'' (by omega) g3 (namesOf_length _ _ _) (fun i hi => ?_) ?_ c7
            · rw [namesOf_blk (by omega) (c2 i i (idN_find hi)), blk_append (by omega), hfix i hi]
            · have := tok_head g1 (S.tmps x') (by rw [namesOf_length]; exact c6) c5
              rw [htn] at this
              exact this
          | exit id =>
            obtain ⟨γ, T', hp', g1, g2, g3⟩ := hq
            exact out γ T' hp' (.exit id) g1 g2 g3
          | ret =>
            obtain ⟨γ, T', hp', g1, g2, g3⟩ := hq
            exact out γ T' hp' .ret g1 g2 g3
          | goto l => exact hq.elim
          | panic c => exact hq.elim
          | outgrown => exact hq.elim
      have hTx := tok_head hT (S.tmps x0) (by rw [namesOf_length]; exact hone) hvals
      exact ⟨S.mea x0 + 1, go _ x0 _ a w (by omega) hinv (namesOf_length _ _ _) (fun i _ => rfl) hTx hSc⟩
theorem famL_ok {G : Type} (S : G → LoopS) (P : Program) : LoopR P (famL S) := by
  intro c bx hb F β T hp a w K hT hS h
  obtain ⟨g, h⟩ := h
  exact (S g).okR P c bx hb F β T hp a w K hT hS h

/-! ### Pieces -/

/-- What a piece of code does, from temporaries and a heap to others. -/
structure PieceS where
  X : Type
  n : Nat
  tin : X → List (Nat × SV)
  heap : X → List (Nat × SObj)
  G : X → Nat → Option Obj
  pre : X → Prop
  Y : Type
  m : Nat
  post : X → Y → Prop
  tout : X → Y → List (Nat × SV)
  heap' : X → Y → List (Nat × SObj)
  G' : X → Y → Nat → Option Obj
def PieceS.twin (S : PieceS) : LoopT := fun bx T hp K => ∃ x : S.X, mState S.n (tmpVals (S.tin x)) (nthL T (S.tin x)) (S.heap x) (S.G x) hp [] fun r =>
  bif allN S.n r && Nat.ble S.n S.m then S.pre x ∧
    (∀ d : Nat → Value, bx ⟨T.n, S.tin x, d⟩ ⟨S.n, heapOf (S.heap x), [], S.G x⟩ fun e T' hp' => (match e with
      | .normal => bif Nat.beq T'.n T.n then ∃ y : S.Y, S.post x y ∧ mState S.m (tmpVals (S.tout x y)) (nthL T' (S.tout x y)) (S.heap' x y) (S.G' x y) hp' (idN S.n) (fun r => bif allN S.m r then True else False) else False
      | _ => False)) ∧
    ∀ y : S.Y, S.post x y → ∀ d : Nat → Value, K .normal (renT (real S.n hp.n r) ⟨T.n, S.tout x y, d⟩)
      ⟨hp.n + (S.m - S.n), renH (real S.n hp.n r) (heapOf (S.heap' x y)) ++ goneH (fpOf (S.heap x) r) hp.H, [], S.G' x y⟩
  else False
theorem PieceS.ok (P : Program) (S : PieceS) : PieceOk P S.twin := by
  intro c bx hb F β T hp a w K hT hS h
  obtain ⟨x, h⟩ := h
  obtain ⟨r, h1, _, hok, _, hvals, hone, hSc⟩ := mState_sound hS h (fun i j h => (by cases h)) (fun b hb => by obtain ⟨t, rfl⟩ := nthL_mem hb; exact nth_ok hT t)
  cases hbb : (allN S.n r && Nat.ble S.n S.m) <;> rw [hbb] at h1
  · exact h1.elim
  · simp only [Bool.and_eq_true] at hbb
    obtain ⟨hall, hnm⟩ := hbb
    have hnm := Nat.le_of_ble_eq_true hnm
    obtain ⟨hpre, hbody, hK⟩ := h1
    have hTx := tok_head hT (S.tin x) (by rw [namesOf_length]; exact hone) hvals
    refine wp_mono (hb _ _ _ _ a w _ hTx hSc (hbody _)) fun e a' w' hq => ?_
    cases e with
    | normal =>
      obtain ⟨γ, T', hp', g1, g2, hq⟩ := hq
      cases htn : Nat.beq T'.n T.n <;> simp only [htn] at hq
      · exact hq.elim
      obtain ⟨y, hpost, hq⟩ := hq
      have htn := beq_t htn
      have hlen : S.n ≤ (namesOf S.n r β ++ γ).length := by simp [namesOf_length]
      obtain ⟨r', c1, c2, c3, _, c5, c6, c7⟩ := mState_sound g2 hq (idN_ok _ _ _ hnm hlen) (fun b hb => by obtain ⟨t, rfl⟩ := nthL_mem hb; exact nth_ok g1 t)
      have c7 := Sat.unoff g2 c7
      have hm := real_means (f := S.n) (r := r) (β := β) (δ := namesOf S.m r' (namesOf S.n r β ++ γ)) (by rw [namesOf_length]; exact hnm) hall hok fun i j hi hj => by
        rw [namesOf_blk (by omega) (c2 i i (idN_find hi)), blk_append (by rw [namesOf_length]; exact hi), namesOf_blk hi hj]
      have hn := hS.n
      have hback := Sat.back hS c7 hm (n := hp.n + (S.m - S.n)) (by simp [namesOf_length, hn])
      rw [← hn] at hback hm
      have hTy := tok_head g1 (S.tout x y) (by rw [namesOf_length]; exact c6) c5
      rw [htn] at hTy
      exact ⟨_, _, _, hTy.ren hm, hback, hK y hpost _⟩
    | exit id => obtain ⟨_, _, _, _, _, h3⟩ := hq; exact h3.elim
    | ret => obtain ⟨_, _, _, _, _, h3⟩ := hq; exact h3.elim
    | goto l => exact hq.elim
    | panic c => exact hq.elim
    | outgrown => exact hq.elim
theorem PieceOk.id (P : Program) : PieceOk P fun bx => bx := fun _ _ h => h
def famP {G : Type} (S : G → PieceS) : LoopT := fun bx T hp K => ∃ g, (S g).twin bx T hp K
theorem famP_ok {G : Type} (S : G → PieceS) (P : Program) : PieceOk P (famP S) := by
  intro c bx hb F β T hp a w K hT hS h
  obtain ⟨g, h⟩ := h
  exact (S g).ok P c bx hb F β T hp a w K hT hS h
end
end Vx
