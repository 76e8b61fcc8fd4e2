/- What this text proves, part by part: Functions and loops by what they do. A result's block that is told to stay as it is from then on: it is one of those that are only read. Blocks that are lent to a call: it reads them by their real addresses, and they are owned again behind it. Functions that only compute: what they do, said of numbers. No condition is added. -/
import Derived.Test.YtafngdeeachggaaGreatFrames01
import Derived.Test.YtafngdeeachggaaGreatFrames02
import Derived.Test.YtafngdeeachggaaGreatFrames03
import Derived.Test.YtafngdeeachggaaGreatFrames04
set_option linter.unusedVariables false
set_option linter.unusedSimpArgs false
section
/- Functions and loops by what they do. -/
namespace Vx
open Go

/-- What a function does: for each x with 'pre', of arguments and a heap of this pattern, some y with 'post' and a result and a heap of that one. Names below n are the arguments'; from n to m - 1 they are new. -/
structure Con where
  X : Type
  n : Nat
  args : X → List SV
  heap : X → List (Nat × SObj)
  G : X → Nat → Option Obj
  pre : X → Prop
  Y : Type
  m : Nat
  post : X → Y → Prop
  res : X → Y → SV
  heap' : X → Y → List (Nat × SObj)
  G' : X → Y → Nat → Option Obj

def idN : Nat → Nm
  | 0 => []
  | n + 1 => (n, n) :: idN n
/-- How a call of it is followed. -/
def Con.spec (S : Con) : SpecT := fun args hp K => ∃ x : S.X, mState S.n (S.args x) args (S.heap x) (S.G x) hp [] fun r =>
  bif allN S.n r && Nat.ble S.n S.m then S.pre x ∧ ∀ y : S.Y, S.post x y →
    K ((S.res x y).ren (real S.n hp.n r)) ⟨hp.n + (S.m - S.n), renH (real S.n hp.n r) (heapOf (S.heap' x y)) ++ goneH (fpOf (S.heap x) r) hp.H, hp.R, S.G' x y⟩
  else False
/-- What has to be shown of its text. -/
def Con.Vc (S : Con) (twin : SpecT) : Prop := ∀ x : S.X, S.pre x →
  twin (S.args x) ⟨S.n, heapOf (S.heap x), [], S.G x⟩ fun v hp' => ∃ y : S.Y, S.post x y ∧ mState S.m [S.res x y] [v] (S.heap' x y) (S.G' x y) hp' (idN S.n) fun r => bif allN S.m r then True else False

theorem callOk_of {P : Program} {call : Nat → SpecT} (h : ∀ f, SpecOk P f (call f)) : CallOk P call := fun f => .inl (h f)
def noSpec : SpecT := fun _ _ _ => False
theorem noSpec_ok (P : Program) (f : Nat) : SpecOk P f noSpec := fun _ _ _ h => h.elim

theorem findN_idN {n i j : Nat} : findN i (idN n) = some j → i = j ∧ i < n := by
  induction n with
  | zero => intro h; cases h
  | succ n ih =>
    intro h
    simp only [idN, findN] at h
    cases hb : Nat.beq n i <;> rw [hb] at h
    · obtain ⟨h1, h2⟩ := ih h
      exact ⟨h1, by omega⟩
    · have := beq_t hb
      cases h
      exact ⟨this.symm, by omega⟩
theorem idN_find {n i : Nat} (h : i < n) : findN i (idN n) = some i := by
  induction n with
  | zero => omega
  | succ n ih =>
    simp only [idN, findN]
    by_cases he : n = i
    · subst he; rw [beq_self]; rfl
    · rw [beq_ne he]; exact ih (by omega)
theorem idN_ok (n m k : Nat) (hm : n ≤ m) (hk : n ≤ k) : NmOk m k (idN n) := fun i j h => by
  obtain ⟨rfl, h2⟩ := findN_idN h
  exact ⟨by omega, by omega⟩

section
variable {P : Program}
/-- A function that does what is said. -/
theorem Con.sound {S : Con} {f : Nat} {twin : SpecT} (ht : SpecOk P f twin) (hv : S.Vc twin) : SpecOk P f S.spec := by
  intro args hp K h
  obtain ⟨x, h⟩ := h
  refine ⟨?_, fun F β w hS ha => ?_⟩
  · -- what the call enters does not hang on the arguments
    have : S.pre x := by
      obtain ⟨r1, h1, _⟩ := mArgs_sound _ _ _ _ h
      obtain ⟨r2, h2, _⟩ := mHeap_sound _ _ _ _ h1
      cases hi : injB r2 <;> rw [hi] at h2
      · exact h2.elim
      · have h3 : (bif (allN S.n r2 && Nat.ble S.n S.m) then _ else False) := h2.2
        cases hb : (allN S.n r2 && Nat.ble S.n S.m) <;> rw [hb] at h3
        · exact h3.elim
        · exact h3.1
    exact (ht _ _ _ (hv x this)).1
  · have hw : ∀ b ∈ args, b.wf β.length := fun b hb => (ha b hb).2
    obtain ⟨r, h1, _, hok, _, hargs, hone, hSc⟩ := mState_sound hS h (fun i j h => (by cases h)) hw
    cases hb : (allN S.n r && Nat.ble S.n S.m) <;> rw [hb] at h1
    · exact h1.elim
    · simp only [Bool.and_eq_true] at hb
      obtain ⟨hall, hnm⟩ := hb
      have hnm := Nat.le_of_ble_eq_true hnm
      obtain ⟨hpre, hK⟩ := h1
      have hcall := (ht _ _ _ (hv x hpre)).2 (F.off β hp (fpOf (S.heap x) r) w) (namesOf S.n r β) w hSc (by rw [namesOf_length]; exact hone)
      rw [hargs] at hcall
      refine hcall.mono ?_
      rintro e w' ⟨v, rfl, γ, sv, hp', k1, k2, k3, rfl, y, hpost, k5⟩
      refine ⟨_, rfl, ?_⟩
      -- the result, in the names of the pattern
      have hlen : S.n ≤ (namesOf S.n r β ++ γ).length := by simp [namesOf_length]
      obtain ⟨r', c1, c2, c3, _, c5, c6, c7⟩ := mState_sound k1 k5 (idN_ok _ _ _ hnm hlen) (fun b hb => by rw [List.mem_singleton.1 hb]; exact k3)
      have hall' : allN S.m r' = true := by
        cases hb : allN S.m r' <;> rw [hb] at c1
        exact c1.elim
      have c7 := Sat.unoff k1 c7
      have hm := real_means (f := S.n) (r := r) (β := β) (δ := namesOf S.m r' (namesOf S.n r β ++ γ)) (by rw [namesOf_length]; exact hnm) hall hok fun i j hi hj => by
        rw [namesOf_blk (by omega) (c2 i i (idN_find hi)), blk_append (by rw [namesOf_length]; exact hi), namesOf_blk hi hj]
      have hn := hS.n
      have hback := Sat.back hS c7 hm (n := hp.n + (S.m - S.n)) (by simp [namesOf_length, hn])
      rw [← hn] at hback hm
      have hres := hone
      obtain ⟨q1, q2⟩ := c6 (S.res x y) (List.mem_singleton.2 rfl)
      have q2' : (S.res x y).wf (namesOf S.m r' (namesOf S.n r β ++ γ)).length := by rw [namesOf_length]; exact q2
      obtain ⟨p1, p2⟩ := SV.ren_vals hm (S.res x y) q2'
      refine ⟨_, _, _, hback, by rw [SV.ren_one]; exact q1, p2, ?_, hK y hpost⟩
      have c5' : (S.res x y).val (namesOf S.m r' (namesOf S.n r β ++ γ)) = sv.val (namesOf S.n r β ++ γ) := by simpa using c5
      rw [← c5']
      simp [SV.val, p1]

/-! ### Loops -/

/-- A loop: at its head, for some x with 'inv', these temporaries and this heap; the names below f never change what they stand for. -/
structure LoopS where
  X : Type
  f : Nat
  m : Nat
  tmps : X → List (Nat × SV)
  heap : X → List (Nat × SObj)
  G : X → Nat → Option Obj
  inv : X → Prop
  mea : X → Nat

def tmpIds : List (Nat × SV) → List Nat
  | [] => []
  | (t, _) :: l => t :: tmpIds l
def tmpVals : List (Nat × SV) → List SV
  | [] => []
  | (_, x) :: l => x :: tmpVals l
/-- The temporaries of a pattern, as they are now. -/
def nthL (T : Tm) : List (Nat × SV) → List SV
  | [] => []
  | (t, _) :: l => nth T t :: nthL T l
def mHead (S : LoopS) (x : S.X) (T : Tm) (hp : Hp) (r : Nm) (K : Nm → Prop) : Prop :=
  mState S.m (tmpVals (S.tmps x)) (nthL T (S.tmps x)) (S.heap x) (S.G x) hp r fun r => bif allN S.m r then K r else False

def backHp (S : LoopS) (x0 : S.X) (hp : Hp) (r : Nm) (hp' : Hp) : Hp :=
  ⟨hp.n + (hp'.n - S.f), renH (real S.f hp.n r) hp'.H ++ goneH (fpOf (S.heap x0) r) hp.H, hp.R, hp'.G⟩
def LoopS.twin (S : LoopS) : LoopT := fun bx T hp K => ∃ x0 : S.X, mHead S x0 T hp [] fun r =>
  bif Nat.ble S.f S.m then S.inv x0 ∧ ∀ x : S.X, S.inv x → ∀ d : Nat → Value, bx ⟨T.n, S.tmps x, d⟩ ⟨S.m, heapOf (S.heap x), [], S.G x⟩ fun e T' hp' => (match e with
    | .normal => bif Nat.beq T'.n T.n then ∃ x' : S.X, S.inv x' ∧ S.mea x' < S.mea x ∧ mHead S x' T' hp' (idN S.f) (fun _ => True) else False
    | e => K e (renT (real S.f hp.n r) T') (backHp S x0 hp r hp'))
  else False

theorem nthL_mem {T : Tm} : ∀ {l : List (Nat × SV)} {b : SV}, b ∈ nthL T l → ∃ t, b = nth T t
  | (t, _) :: l, b, h => by
    rcases List.mem_cons.1 h with rfl | h
    · exact ⟨t, rfl⟩
    · exact nthL_mem h
/-- The temporaries at a loop's head. -/
theorem tok_head {β : List Nat} {T : Tm} {a : Act} {β' : List Nat} (hT : TOk β T a) : ∀ (l : List (Nat × SV)), (∀ x ∈ tmpVals l, x.one = true ∧ x.wf β'.length) →
    (tmpVals l).map (SV.val β') = (nthL T l).map (SV.val β) → TOk β' ⟨T.n, l, fun t => a.tmps.getD t undef⟩ a := by
  intro l h1 h2
  have key : ∀ (l : List (Nat × SV)), (∀ x ∈ tmpVals l, x.one = true ∧ x.wf β'.length) → (tmpVals l).map (SV.val β') = (nthL T l).map (SV.val β) →
      ∀ t, (look (fun t => a.tmps.getD t undef) t l).one = true ∧ (look (fun t => a.tmps.getD t undef) t l).wf β'.length ∧ (t < T.n → a.tmps[t]? = some ((look (fun t => a.tmps.getD t undef) t l).val β')) := by
    intro l
    induction l with
    | nil =>
      intro _ _ t
      refine ⟨rfl, trivial, fun ht => ?_⟩
      have hlt : t < a.tmps.size := by rw [hT.size]; exact ht
      simp [look, SV.val, SV.vals, hlt]
    | cons e l ih =>
      obtain ⟨j, x⟩ := e
      intro h1 h2 t
      simp only [tmpVals, nthL, List.map_cons, List.cons.injEq] at h2
      have ih := ih (fun y hy => h1 y (List.mem_cons_of_mem _ hy)) h2.2 t
      simp only [look]
      by_cases hj : j = t
      · subst hj
        rw [beq_self, cond_true]
        obtain ⟨g1, g2⟩ := h1 x List.mem_cons_self
        refine ⟨g1, g2, fun ht => ?_⟩
        have h3 := h2.1
        rw [h3]
        unfold nth
        rw [blt_of ht, cond_true]
        exact hT.tmps j ht
      · rw [beq_ne hj, cond_false]
        exact ih
  exact ⟨hT.size, fun t ht => (key l h1 h2 t).2.2 ht, fun t => ⟨(key l h1 h2 t).1, (key l h1 h2 t).2.1⟩, hT.defers⟩

theorem nth_ok {β : List Nat} {T : Tm} {a : Act} (h : TOk β T a) (t : Nat) : (nth T t).wf β.length := by
  unfold nth
  cases Nat.blt t T.n
  · trivial
  · exact (h.ok t).2

/-- A way to go round that comes to an end. -/
def LoopR (P : Program) (L : LoopT) : Prop := ∀ c bx, BodyOk P c bx → ∀ (F : Fr) (β : List Nat) (T : Tm) (hp : Hp) (a : Act) (w : World) (K : KT), TOk β T a → Sat F β hp w → L bx T hp K → ∃ n, Code.rounds P c (QK F β K) n a w
theorem LoopR.ok {P : Program} {L : LoopT} (h : LoopR P L) : LoopOk P L := fun c bx hb F β T hp a w K hT hS hL =>
  let ⟨n, hn⟩ := h c bx hb F β T hp a w K hT hS hL
  wp_loop_rounds n hn
/-- One round, then such an end. -/
theorem wp_loop_first {Q : Exit → Act → World → Prop} {a : Act} {w : World} {c : Code} (h : c.wp P (Exit.then (fun a w => ∃ n, Code.rounds P c Q n a w) Q) a w) : (Code.loop c).wp P Q a w := by
  intro b k cs
  have rest : ∀ n a w, Code.rounds P c Q n a w → ∃ e a' w', Q e a' w' ∧ Arrives P (lone (b.at a (.code c :: .inLoop c :: k)) cs w) b k cs e a' w' := by
    intro n
    induction n with
    | zero => intro a w h; exact h.elim
    | succ n ih =>
      intro a w h
      obtain ⟨e, a₁, w₁, hq, harr⟩ := h b (.inLoop c :: k) cs
      cases e with
      | normal =>
        obtain ⟨e₂, a₂, w₂, hq₂, harr₂⟩ := ih a₁ w₁ hq
        exact ⟨e₂, a₂, w₂, hq₂, .of_steps (Steps.trans harr (.one step_inLoop)) harr₂⟩
      | exit id => exact ⟨_, a₁, w₁, hq, .pass (x := .inLoop c) rfl (fun _ _ => .inl (by simp)) harr⟩
      | goto l => exact ⟨_, a₁, w₁, hq, .pass (x := .inLoop c) rfl (fun _ _ => .inl (by simp)) harr⟩
      | ret => exact ⟨_, a₁, w₁, hq, .pass (x := .inLoop c) rfl (fun _ _ => .inl (by simp)) harr⟩
      | panic ch => exact ⟨_, a₁, w₁, hq, .pass (x := .inLoop c) rfl (fun _ _ => .inl (by simp)) harr⟩
      | outgrown => exact ⟨_, a₁, w₁, hq, .pass (x := .inLoop c) rfl (fun _ _ => .inl (by simp)) harr⟩
  obtain ⟨e, a₁, w₁, hq, harr⟩ := h b (.inLoop c :: k) cs
  cases e with
  | normal =>
    obtain ⟨n, hn⟩ := hq
    obtain ⟨e₂, a₂, w₂, hq₂, harr₂⟩ := rest n a₁ w₁ hn
    exact ⟨e₂, a₂, w₂, hq₂, .of_steps (.one step_loop) (.of_steps (Steps.trans harr (.one step_inLoop)) harr₂)⟩
  | exit id => exact ⟨_, a₁, w₁, hq, .of_steps (.one step_loop) (.pass (x := .inLoop c) rfl (fun _ _ => .inl (by simp)) harr)⟩
  | goto l => exact ⟨_, a₁, w₁, hq, .of_steps (.one step_loop) (.pass (x := .inLoop c) rfl (fun _ _ => .inl (by simp)) harr)⟩
  | ret => exact ⟨_, a₁, w₁, hq, .of_steps (.one step_loop) (.pass (x := .inLoop c) rfl (fun _ _ => .inl (by simp)) harr)⟩
  | panic ch => exact ⟨_, a₁, w₁, hq, .of_steps (.one step_loop) (.pass (x := .inLoop c) rfl (fun _ _ => .inl (by simp)) harr)⟩
  | outgrown => exact ⟨_, a₁, w₁, hq, .of_steps (.one step_loop) (.pass (x := .inLoop c) rfl (fun _ _ => .inl (by simp)) harr)⟩

theorem rounds_later {F : Fr} {β γ : List Nat} {K : KT} {c : Code} : ∀ (n : Nat) (a : Act) (w : World), Code.rounds P c (QK F (β ++ γ) K) n a w → Code.rounds P c (QK F β K) n a w
  | 0, _, _, h => h
  | n + 1, a, w, h => wp_mono (h : c.wp P (Exit.then (Code.rounds P c (QK F (β ++ γ) K) n) (QK F (β ++ γ) K)) a w) fun e a' w' hq => by
    cases e with
    | normal => exact rounds_later n a' w' hq
    | exit id => exact QK.later (e := .exit id) hq
    | ret => exact QK.later (e := .ret) hq
    | goto l => exact hq
    | panic c => exact hq
    | outgrown => exact hq

/-- The first round alone, then the rest. -/
def peel (L : LoopT) : LoopT := fun bx T hp K => bx T hp fun e T' hp' => (match e with
  | .normal => L bx T' hp' K
  | e => K e T' hp')
theorem peel_ok {L : LoopT} (hL : LoopR P L) : LoopOk P (peel L) := by
  intro c bx hb F β T hp a w K hT hS h
  refine wp_loop_first (wp_mono (hb F β T hp a w _ hT hS h) fun e a' w' hq => ?_)
  cases e with
  | normal =>
    obtain ⟨γ, T', hp', h1, h2, h3⟩ := hq
    obtain ⟨n, hn⟩ := hL c bx hb F (β ++ γ) T' hp' a' w' K h1 h2 h3
    exact ⟨n, rounds_later n a' w' hn⟩
  | exit id => exact hq
  | ret => exact hq
  | goto l => exact hq.elim
  | panic c => exact hq.elim
  | outgrown => exact hq.elim

/-- A loop with something that stays the same. -/
def famL {G : Type} (S : G → LoopS) : LoopT := fun bx T hp K => ∃ g, (S g).twin bx T hp K

theorem LoopS.okR (P : Program) (S : LoopS) : LoopR P S.twin := by
  intro c bx hb F β T hp a w K hT hS h
  obtain ⟨x0, h⟩ := h
  obtain ⟨r, h1, _, hok, _, hvals, hone, hSc⟩ := mState_sound hS h (fun i j h => (by cases h)) (fun b hb => by obtain ⟨t, rfl⟩ := nthL_mem hb; exact nth_ok hT t)
  cases hall : allN S.m r <;> rw [hall] at h1
  · exact h1.elim
  · cases hfm : Nat.ble S.f S.m <;> rw [hfm] at h1
    · exact h1.elim
    · have hfm := Nat.le_of_ble_eq_true hfm
      obtain ⟨hinv, hbody⟩ := h1
      have hn := hS.n
      have hallf : allN S.f r = true := List.all_eq_true.2 fun i hi => (List.all_eq_true.1 hall) i (List.mem_range.2 (by have := List.mem_range.1 hi; omega))
      -- round by round
      have go : ∀ (k : Nat) (x : S.X) (δ : List Nat) (a : Act) (w' : World), S.mea x < k → S.inv x → δ.length = S.m → (∀ i, i < S.f → blk δ i = blk (namesOf S.m r β) i) →
          TOk δ ⟨T.n, S.tmps x, fun t => a.tmps.getD t undef⟩ a → Sat (F.off β hp (fpOf (S.heap x0) r) w) δ ⟨S.m, heapOf (S.heap x), [], S.G x⟩ w' → Code.rounds P c (QK F β K) k a w' := by
        intro k
        induction k with
        | zero => intro x δ a w' hk; omega
        | succ k ih =>
          intro x δ a w' hk hix hδ hfix hTx hSx
          show c.wp P (Exit.then (Code.rounds P c (QK F β K) k) (QK F β K)) a w'
          refine wp_mono (hb (F.off β hp (fpOf (S.heap x0) r) w) δ _ _ a w' _ hTx hSx (hbody x hix _)) fun e a' w'' hq => ?_
          have out : ∀ (γ : List Nat) (T' : Tm) (hp' : Hp) (e : XE), TOk (δ ++ γ) T' a' → Sat (F.off β hp (fpOf (S.heap x0) r) w) (δ ++ γ) hp' w'' → K e (renT (real S.f hp.n r) T') (backHp S x0 hp r hp') → Post F β (K e) a' w'' := by
            intro γ T' hp' e g1 g2 g3
            have hm := real_means (f := S.f) (r := r) (β := β) (δ := δ ++ γ) (by simp; omega) hallf hok fun i j hi hj => by
              rw [blk_append (by omega), hfix i hi, namesOf_blk (by omega) hj]
            rw [← hn] at hm
            have hn' := g2.n
            exact ⟨_, _, _, g1.ren hm, Sat.back hS g2 hm (n := hp.n + (hp'.n - S.f)) (by simp [hn, hn']), g3⟩
          cases e with
          | normal =>
            obtain ⟨γ, T', hp', g1, g2, hq⟩ := hq
            cases htn : Nat.beq T'.n T.n <;> simp only [htn] at hq
            · exact hq.elim
            obtain ⟨x', g3, g4, g5⟩ := hq
            have htn := beq_t htn
            obtain ⟨r', c1, c2, c3, _, c5, c6, c7⟩ := mState_sound g2 g5 (idN_ok _ _ _ hfm (by simp; omega)) (fun b hb => by obtain ⟨t, rfl⟩ := nthL_mem hb; exact nth_ok g1 t)
            have hall' : allN S.m r' = true := by
              cases hb : allN S.m r' <;> rw [hb] at c1
              exact c1.elim
            have c7 := Sat.unoff g2 c7
            refine ih x' (namesOf S.m r' (δ ++ γ)) a' w'' (by omega) g3 (namesOf_length _ _ _) (fun i hi => ?_) ?_ c7
            · rw [namesOf_blk (by omega) (c2 i i (idN_find hi)), blk_append (by omega), hfix i hi]
            · have := tok_head g1 (S.tmps x') (by rw [namesOf_length]; exact c6) c5
              rw [htn] at this
              exact this
          | exit id =>
            obtain ⟨γ, T', hp', g1, g2, g3⟩ := hq
            exact out γ T' hp' (.exit id) g1 g2 g3
          | ret =>
            obtain ⟨γ, T', hp', g1, g2, g3⟩ := hq
            exact out γ T' hp' .ret g1 g2 g3
          | goto l => exact hq.elim
          | panic c => exact hq.elim
          | outgrown => exact hq.elim
      have hTx := tok_head hT (S.tmps x0) (by rw [namesOf_length]; exact hone) hvals
      exact ⟨S.mea x0 + 1, go _ x0 _ a w (by omega) hinv (namesOf_length _ _ _) (fun i _ => rfl) hTx hSc⟩
theorem famL_ok {G : Type} (S : G → LoopS) (P : Program) : LoopR P (famL S) := by
  intro c bx hb F β T hp a w K hT hS h
  obtain ⟨g, h⟩ := h
  exact (S g).okR P c bx hb F β T hp a w K hT hS h

/-! ### Pieces -/

/-- What a piece of code does, from temporaries and a heap to others. -/
structure PieceS where
  X : Type
  n : Nat
  tin : X → List (Nat × SV)
  heap : X → List (Nat × SObj)
  G : X → Nat → Option Obj
  pre : X → Prop
  Y : Type
  m : Nat
  post : X → Y → Prop
  tout : X → Y → List (Nat × SV)
  heap' : X → Y → List (Nat × SObj)
  G' : X → Y → Nat → Option Obj
def PieceS.twin (S : PieceS) : LoopT := fun bx T hp K => ∃ x : S.X, mState S.n (tmpVals (S.tin x)) (nthL T (S.tin x)) (S.heap x) (S.G x) hp [] fun r =>
  bif allN S.n r && Nat.ble S.n S.m then S.pre x ∧
    (∀ d : Nat → Value, bx ⟨T.n, S.tin x, d⟩ ⟨S.n, heapOf (S.heap x), [], S.G x⟩ fun e T' hp' => (match e with
      | .normal => bif Nat.beq T'.n T.n then ∃ y : S.Y, S.post x y ∧ mState S.m (tmpVals (S.tout x y)) (nthL T' (S.tout x y)) (S.heap' x y) (S.G' x y) hp' (idN S.n) (fun r => bif allN S.m r then True else False) else False
      | _ => False)) ∧
    ∀ y : S.Y, S.post x y → ∀ d : Nat → Value, K .normal (renT (real S.n hp.n r) ⟨T.n, S.tout x y, d⟩)
      ⟨hp.n + (S.m - S.n), renH (real S.n hp.n r) (heapOf (S.heap' x y)) ++ goneH (fpOf (S.heap x) r) hp.H, hp.R, S.G' x y⟩
  else False
theorem PieceS.ok (P : Program) (S : PieceS) : PieceOk P S.twin := by
  intro c bx hb F β T hp a w K hT hS h
  obtain ⟨x, h⟩ := h
  obtain ⟨r, h1, _, hok, _, hvals, hone, hSc⟩ := mState_sound hS h (fun i j h => (by cases h)) (fun b hb => by obtain ⟨t, rfl⟩ := nthL_mem hb; exact nth_ok hT t)
  cases hbb : (allN S.n r && Nat.ble S.n S.m) <;> rw [hbb] at h1
  · exact h1.elim
  · simp only [Bool.and_eq_true] at hbb
    obtain ⟨hall, hnm⟩ := hbb
    have hnm := Nat.le_of_ble_eq_true hnm
    obtain ⟨hpre, hbody, hK⟩ := h1
    have hTx := tok_head hT (S.tin x) (by rw [namesOf_length]; exact hone) hvals
    refine wp_mono (hb _ _ _ _ a w _ hTx hSc (hbody _)) fun e a' w' hq => ?_
    cases e with
    | normal =>
      obtain ⟨γ, T', hp', g1, g2, hq⟩ := hq
      cases htn : Nat.beq T'.n T.n <;> simp only [htn] at hq
      · exact hq.elim
      obtain ⟨y, hpost, hq⟩ := hq
      have htn := beq_t htn
      have hlen : S.n ≤ (namesOf S.n r β ++ γ).length := by simp [namesOf_length]
      obtain ⟨r', c1, c2, c3, _, c5, c6, c7⟩ := mState_sound g2 hq (idN_ok _ _ _ hnm hlen) (fun b hb => by obtain ⟨t, rfl⟩ := nthL_mem hb; exact nth_ok g1 t)
      have c7 := Sat.unoff g2 c7
      have hm := real_means (f := S.n) (r := r) (β := β) (δ := namesOf S.m r' (namesOf S.n r β ++ γ)) (by rw [namesOf_length]; exact hnm) hall hok fun i j hi hj => by
        rw [namesOf_blk (by omega) (c2 i i (idN_find hi)), blk_append (by rw [namesOf_length]; exact hi), namesOf_blk hi hj]
      have hn := hS.n
      have hback := Sat.back hS c7 hm (n := hp.n + (S.m - S.n)) (by simp [namesOf_length, hn])
      rw [← hn] at hback hm
      have hTy := tok_head g1 (S.tout x y) (by rw [namesOf_length]; exact c6) c5
      rw [htn] at hTy
      exact ⟨_, _, _, hTy.ren hm, hback, hK y hpost _⟩
    | exit id => obtain ⟨_, _, _, _, _, h3⟩ := hq; exact h3.elim
    | ret => obtain ⟨_, _, _, _, _, h3⟩ := hq; exact h3.elim
    | goto l => exact hq.elim
    | panic c => exact hq.elim
    | outgrown => exact hq.elim
theorem PieceOk.id (P : Program) : PieceOk P fun bx => bx := fun _ _ h => h
def famP {G : Type} (S : G → PieceS) : LoopT := fun bx T hp K => ∃ g, (S g).twin bx T hp K
theorem famP_ok {G : Type} (S : G → PieceS) (P : Program) : PieceOk P (famP S) := by
  intro c bx hb F β T hp a w K hT hS h
  obtain ⟨g, h⟩ := h
  exact (S g).ok P c bx hb F β T hp a w K hT hS h
end
end Vx
end
section
/- A result's block that is told to stay as it is from then on: it is one of those that are only read. -/
namespace Vx
open Go

theorem addG_sub {a : Nat} {o : Obj} {G : Nat → Option Obj} (h : G a = none) : Sub G (addG a o G) := fun b x hb => by
  simp only [addG]
  by_cases e : b = a
  · subst e; rw [h] at hb; cases hb
  · rw [if_neg e]; exact hb
theorem addG_self (a : Nat) (o : Obj) (G : Nat → Option Obj) : addG a o G a = some o := by simp [addG]

theorem Sat.freeze {F : Fr} {β : List Nat} {n : Nat} {H H' : List (Nat × Option SObj)} {R : List (Nat × Nat)} {G : Nat → Option Obj} {w : World} (h : Sat F β ⟨n, H, R, G⟩ w) {id : Nat} {o : SObj} (ho : getH id H = some o)
    (hH : ∀ j x, getH j H' = some x → j ≠ id ∧ getH j H = some x) : G (blk β id) = none ∧ Sat F β ⟨n, H', R, addG (blk β id) (o.den β) G⟩ w := by
  obtain ⟨g1, g2, g3, g4⟩ := h.own id o ho
  have hG : G (blk β id) = none := by
    cases hg : G (blk β id) with
    | none => rfl
    | some x => exact absurd (Or.inr hg) (g3 x)
  have hF : F.h (blk β id) = none := by
    cases hg : F.h (blk β id) with
    | none => rfl
    | some x => exact absurd (Or.inl hg) (g3 x)
  have cases_ : ∀ b x, fixd F (addG (blk β id) (o.den β) G) b x → fixd F G b x ∨ (b = blk β id ∧ x = o.den β) := fun b x hb => by
    rcases hb with hb | hb
    · exact .inl (.inl hb)
    · simp only [addG] at hb
      by_cases e : b = blk β id
      · rw [if_pos e] at hb; cases hb; exact .inr ⟨e, rfl⟩
      · rw [if_neg e] at hb; exact .inl (.inr hb)
  refine ⟨hG, h.n, h.outer, fun b x hb => ?_, fun j x hx => ?_, fun j x k y hx hy hjk => ?_, h.ro, fun b x hb => ?_⟩
  · rcases cases_ b x hb with hb | ⟨rfl, rfl⟩
    · exact h.ext b x hb
    · exact g4
  · obtain ⟨hj, hx⟩ := hH j x hx
    obtain ⟨k1, k2, k3, k4⟩ := h.own j x hx
    refine ⟨k1, k2, fun y hy => ?_, k4⟩
    rcases cases_ _ _ hy with hy | ⟨e, _⟩
    · exact k3 y hy
    · exact h.apart j x id o hx ho hj e
  · exact h.apart j x k y (hH j x hx).2 (hH k y hy).2 hjk
  · simp only [addG] at hb
    by_cases e : b = blk β id
    · subst e; exact hF
    · rw [if_neg e] at hb; exact h.disj b x hb

/-- A contract's end, told in its own words. -/
def Con.End (T : Con) (x : T.X) (v : SV) (hp' : Hp) : Prop :=
  ∃ y : T.Y, T.post x y ∧ mState T.m [T.res x y] [v] (T.heap' x y) (T.G' x y) hp' (idN T.n) fun _ => True
/-- Another way to come to a contract's end: one of the new blocks stays as it is from then on, and is read where it lies. -/
structure FrzTo (T : Con) where
  Y : Type
  post : T.X → Y → Prop
  res : T.X → Y → SV
  G' : T.X → Y → Nat → Option Obj
  id : Nat
  o : T.X → Y → SObj
  rest : T.X → Y → List (Nat × SObj)
  to : T.X → Y → Nat → T.Y
  obj : T.X → Y → Obj
  lo : T.n ≤ id
  hi : id < T.m
  other : ∀ x y, ∀ e ∈ rest x y, e.1 ≠ id
  den : ∀ x y ρ β, ((o x y).ren ρ).den β = obj x y
  val : ∀ x y ρ β, ((T.res x (to x y (blk β (ρ id)))).ren ρ).val β = ((res x y).ren ρ).val β
  one : ∀ x y a, (T.res x (to x y a)).one = true
  wf : ∀ x y a n, (res x y).wf n → (T.res x (to x y a)).wf n
  toHeap : ∀ x y a, T.heap' x (to x y a) = rest x y
  toG : ∀ x y a, T.G' x (to x y a) = addG a (obj x y) (G' x y)
  toPost : ∀ x y a, post x y → G' x y a = none → T.post x (to x y a)
def FrzTo.End {T : Con} (Z : FrzTo T) (x : T.X) (v : SV) (hp' : Hp) : Prop :=
  ∃ y : Z.Y, Z.post x y ∧ mState T.m [Z.res x y] [v] ((Z.id, Z.o x y) :: Z.rest x y) (Z.G' x y) hp' (idN T.n) fun _ => True

theorem getH_heapOf_mem {j : Nat} {x : SObj} {l : List (Nat × SObj)} (h : getH j (heapOf l) = some x) : ∃ e ∈ l, e.1 = j := ⟨_, mem_heapOf h, rfl⟩

variable {P : Program}
/-- Where a call's run has ended as a contract says, its caller goes on. -/
theorem Con.End.yld {T : Con} {x : T.X} {F : Fr} {β γ : List Nat} {hp hp' : Hp} {w w' : World} {r : Nm} {sv : SV} {K : SV → Hp → Prop} (hS : Sat F β hp w) (hnm : T.n ≤ T.m) (hall : allN T.n r = true)
    (hok : NmOk T.n β.length r) (k1 : Sat (F.off β hp (fpOf (T.heap x) r) w) (namesOf T.n r β ++ γ) hp' w') (k3 : sv.wf (namesOf T.n r β ++ γ).length) (h : T.End x sv hp')
    (hK : ∀ y : T.Y, T.post x y → K ((T.res x y).ren (real T.n hp.n r)) ⟨hp.n + (T.m - T.n), renH (real T.n hp.n r) (heapOf (T.heap' x y)) ++ goneH (fpOf (T.heap x) r) hp.H, hp.R, T.G' x y⟩) :
    Yld F β K (sv.val (namesOf T.n r β ++ γ)) w' := by
  obtain ⟨y, hpost, k5⟩ := h
  have hlen : T.n ≤ (namesOf T.n r β ++ γ).length := by simp [namesOf_length]
  obtain ⟨r', c1, c2, c3, _, c5, c6, c7⟩ := mState_sound k1 k5 (idN_ok _ _ _ hnm hlen) (fun b hb => by rw [List.mem_singleton.1 hb]; exact k3)
  have c7 := Sat.unoff k1 c7
  have hm := real_means (f := T.n) (r := r) (β := β) (δ := namesOf T.m r' (namesOf T.n r β ++ γ)) (by rw [namesOf_length]; exact hnm) hall hok fun i j hi hj => by
    rw [namesOf_blk (by omega) (c2 i i (idN_find hi)), blk_append (by rw [namesOf_length]; exact hi), namesOf_blk hi hj]
  have hn := hS.n
  have hback := Sat.back hS c7 hm (n := hp.n + (T.m - T.n)) (by simp [namesOf_length, hn])
  rw [← hn] at hback hm
  obtain ⟨q1, q2⟩ := c6 (T.res x y) (List.mem_singleton.2 rfl)
  have q2' : (T.res x y).wf (namesOf T.m r' (namesOf T.n r β ++ γ)).length := by rw [namesOf_length]; exact q2
  obtain ⟨p1, p2⟩ := SV.ren_vals hm (T.res x y) q2'
  refine ⟨_, _, _, hback, by rw [SV.ren_one]; exact q1, p2, ?_, hK y hpost⟩
  have c5' : (T.res x y).val (namesOf T.m r' (namesOf T.n r β ++ γ)) = sv.val (namesOf T.n r β ++ γ) := by simpa using c5
  rw [← c5']
  simp [SV.val, p1]
theorem FrzTo.End.yld {T : Con} (Z : FrzTo T) {x : T.X} {F : Fr} {β γ : List Nat} {hp hp' : Hp} {w w' : World} {r : Nm} {sv : SV} {K : SV → Hp → Prop} (hS : Sat F β hp w) (hnm : T.n ≤ T.m) (hall : allN T.n r = true)
    (hok : NmOk T.n β.length r) (k1 : Sat (F.off β hp (fpOf (T.heap x) r) w) (namesOf T.n r β ++ γ) hp' w') (k3 : sv.wf (namesOf T.n r β ++ γ).length) (h : Z.End x sv hp')
    (hK : ∀ y : T.Y, T.post x y → K ((T.res x y).ren (real T.n hp.n r)) ⟨hp.n + (T.m - T.n), renH (real T.n hp.n r) (heapOf (T.heap' x y)) ++ goneH (fpOf (T.heap x) r) hp.H, hp.R, T.G' x y⟩) :
    Yld F β K (sv.val (namesOf T.n r β ++ γ)) w' := by
  obtain ⟨y, hpost, k5⟩ := h
  have hlen : T.n ≤ (namesOf T.n r β ++ γ).length := by simp [namesOf_length]
  obtain ⟨r', c1, c2, c3, _, c5, c6, c7⟩ := mState_sound k1 k5 (idN_ok _ _ _ hnm hlen) (fun b hb => by rw [List.mem_singleton.1 hb]; exact k3)
  have c7 := Sat.unoff k1 c7
  have hm := real_means (f := T.n) (r := r) (β := β) (δ := namesOf T.m r' (namesOf T.n r β ++ γ)) (by rw [namesOf_length]; exact hnm) hall hok fun i j hi hj => by
    rw [namesOf_blk (by omega) (c2 i i (idN_find hi)), blk_append (by rw [namesOf_length]; exact hi), namesOf_blk hi hj]
  have hn := hS.n
  have hback := Sat.back hS c7 hm (n := hp.n + (T.m - T.n)) (by simp [namesOf_length, hn])
  rw [← hn] at hback hm
  obtain ⟨q1, q2⟩ := c6 (Z.res x y) (List.mem_singleton.2 rfl)
  have q2' : (Z.res x y).wf (namesOf T.m r' (namesOf T.n r β ++ γ)).length := by rw [namesOf_length]; exact q2
  obtain ⟨p1, p2⟩ := SV.ren_vals hm (Z.res x y) q2'
  have c5' : (Z.res x y).val (namesOf T.m r' (namesOf T.n r β ++ γ)) = sv.val (namesOf T.n r β ++ γ) := by simpa using c5
  -- the block that stays
  have hlo := Z.lo
  have hreal : real T.n hp.n r Z.id = hp.n + (Z.id - T.n) := by
    unfold real
    rw [blt_not (by omega), cond_false]
  have hne : ∀ i, i ≠ Z.id → i < T.m → real T.n hp.n r i ≠ real T.n hp.n r Z.id := by
    intro i hi him
    rw [hreal]
    unfold real
    by_cases hlt : i < T.n
    · rw [blt_of hlt, cond_true]
      have := (List.all_eq_true.1 hall) i (List.mem_range.2 hlt)
      cases hj : findN i r with
      | none => rw [hj] at this; cases this
      | some j =>
        have h2 := (hok i j hj).2
        simp only [Option.getD_some]
        omega
    · rw [blt_not (by omega), cond_false]
      omega
  have hfz := Sat.freeze hback (id := real T.n hp.n r Z.id) (o := (Z.o x y).ren (real T.n hp.n r)) (H' := renH (real T.n hp.n r) (heapOf (Z.rest x y)) ++ goneH (fpOf (T.heap x) r) hp.H)
    (by simp [heapOf, renH, getH, beq_self]) fun j s hs => by
      have hj : j ≠ real T.n hp.n r Z.id := by
        rcases getH_app hs with hs | hs
        · obtain ⟨i, o', rfl, h2, _⟩ := getH_renH hs
          obtain ⟨e, he, rfl⟩ := getH_heapOf_mem h2
          have hlt := (c7.own e.1 o' (by rw [heapOf, getH_ne (Ne.symm (Z.other x y e he))]; exact h2)).1
          rw [namesOf_length] at hlt
          exact hne _ (Z.other x y e he) hlt
        · have := (hS.own j s (getH_goneH hs).2).1
          rw [hreal, hn]
          omega
      refine ⟨hj, ?_⟩
      simp only [heapOf, renH, List.cons_append]
      rw [getH_ne (Ne.symm hj)]
      exact hs
  obtain ⟨f1, f2⟩ := hfz
  have f3 := Z.toPost x y _ hpost f1
  rw [Z.den] at f2
  have hK := hK _ f3
  rw [Z.toHeap, Z.toG] at hK
  have w1 := Z.wf x y (blk (β ++ (namesOf T.m r' (namesOf T.n r β ++ γ)).drop T.n) (real T.n hp.n r Z.id)) _ q2'
  obtain ⟨p1', p2'⟩ := SV.ren_vals hm _ w1
  refine ⟨_, _, _, f2, by rw [SV.ren_one]; exact Z.one x y _, p2', ?_, hK⟩
  rw [Z.val, ← c5']
  simp [SV.val, p1]

/-- What has to be shown of a function's text that ends in one of these two ways. -/
def Con.VcAlt (T : Con) (Z : FrzTo T) (twin : SpecT) : Prop := ∀ x : T.X, T.pre x →
  twin (T.args x) ⟨T.n, heapOf (T.heap x), [], T.G x⟩ fun v hp' => T.End x v hp' ∨ Z.End x v hp'
def Con.VcFrz (T : Con) (Z : FrzTo T) (twin : SpecT) : Prop := ∀ x : T.X, T.pre x →
  twin (T.args x) ⟨T.n, heapOf (T.heap x), [], T.G x⟩ fun v hp' => Z.End x v hp'
theorem Con.soundOf {T : Con} {E : T.X → SV → Hp → Prop} {f : Nat} {twin : SpecT} (ht : SpecOk P f twin)
    (hE : ∀ (x : T.X) (F : Fr) (β γ : List Nat) (hp hp' : Hp) (w w' : World) (r : Nm) (sv : SV) (K : SV → Hp → Prop), Sat F β hp w → T.n ≤ T.m → allN T.n r = true →
      NmOk T.n β.length r → Sat (F.off β hp (fpOf (T.heap x) r) w) (namesOf T.n r β ++ γ) hp' w' → sv.wf (namesOf T.n r β ++ γ).length → E x sv hp' →
      (∀ y : T.Y, T.post x y → K ((T.res x y).ren (real T.n hp.n r)) ⟨hp.n + (T.m - T.n), renH (real T.n hp.n r) (heapOf (T.heap' x y)) ++ goneH (fpOf (T.heap x) r) hp.H, hp.R, T.G' x y⟩) →
      Yld F β K (sv.val (namesOf T.n r β ++ γ)) w')
    (hv : ∀ x : T.X, T.pre x → twin (T.args x) ⟨T.n, heapOf (T.heap x), [], T.G x⟩ (E x)) : SpecOk P f T.spec := by
  intro args hp K h
  obtain ⟨x, h⟩ := h
  refine ⟨?_, fun F β w hS ha => ?_⟩
  · have : T.pre x := by
      obtain ⟨r1, h1, _⟩ := mArgs_sound _ _ _ _ h
      obtain ⟨r2, h2, _⟩ := mHeap_sound _ _ _ _ h1
      cases hi : injB r2 <;> rw [hi] at h2
      · exact h2.elim
      · have h3 : (bif (allN T.n r2 && Nat.ble T.n T.m) then _ else False) := h2.2
        cases hb : (allN T.n r2 && Nat.ble T.n T.m) <;> rw [hb] at h3
        · exact h3.elim
        · exact h3.1
    exact (ht _ _ _ (hv x this)).1
  · have hw : ∀ b ∈ args, b.wf β.length := fun b hb => (ha b hb).2
    obtain ⟨r, h1, _, hok, _, hargs, hone, hSc⟩ := mState_sound hS h (fun i j h => (by cases h)) hw
    cases hb : (allN T.n r && Nat.ble T.n T.m) <;> rw [hb] at h1
    · exact h1.elim
    · simp only [Bool.and_eq_true] at hb
      obtain ⟨hall, hnm⟩ := hb
      have hnm := Nat.le_of_ble_eq_true hnm
      obtain ⟨hpre, hK⟩ := h1
      have hcall := (ht _ _ _ (hv x hpre)).2 (F.off β hp (fpOf (T.heap x) r) w) (namesOf T.n r β) w hSc (by rw [namesOf_length]; exact hone)
      rw [hargs] at hcall
      refine hcall.mono ?_
      rintro e w' ⟨v, rfl, γ, sv, hp', k1, k2, k3, rfl, k4⟩
      exact ⟨_, rfl, hE x F β γ hp hp' w w' r sv K hS hnm hall hok k1 k3 k4 hK⟩
theorem Con.soundAlt {T : Con} (Z : FrzTo T) {f : Nat} {twin : SpecT} (ht : SpecOk P f twin) (hv : T.VcAlt Z twin) : SpecOk P f T.spec :=
  Con.soundOf ht (fun _ _ _ _ _ _ _ _ _ _ _ hS hnm hall hok k1 k3 h hK => h.elim (fun h => Con.End.yld hS hnm hall hok k1 k3 h hK) (fun h => FrzTo.End.yld Z hS hnm hall hok k1 k3 h hK)) hv
theorem Con.soundFrz {T : Con} (Z : FrzTo T) {f : Nat} {twin : SpecT} (ht : SpecOk P f twin) (hv : T.VcFrz Z twin) : SpecOk P f T.spec :=
  Con.soundOf ht (fun _ _ _ _ _ _ _ _ _ _ _ hS hnm hall hok k1 k3 h hK => FrzTo.End.yld Z hS hnm hall hok k1 k3 h hK) hv

/-- How a contract's result is told when one of its new blocks stays from then on. -/
structure Frz (S : Con) where
  id : Nat
  o : S.X → S.Y → SObj
  rest : S.X → S.Y → List (Nat × SObj)
  res : S.X → S.Y → Nat → SV
  obj : S.X → S.Y → Obj
  lo : S.n ≤ id
  hi : id < S.m
  heap : ∀ x y, S.heap' x y = (id, o x y) :: rest x y
  other : ∀ x y, ∀ e ∈ rest x y, e.1 ≠ id
  den : ∀ x y ρ β, ((o x y).ren ρ).den β = obj x y
  val : ∀ x y ρ β, ((res x y (blk β (ρ id))).ren ρ).val β = ((S.res x y).ren ρ).val β
  one : ∀ x y a, (res x y a).one = true
  wf : ∀ x y a n, (S.res x y).wf n → (res x y a).wf n
def Con.frz (S : Con) (Z : Frz S) : Con where
  X := S.X
  n := S.n
  args := S.args
  heap := S.heap
  G := S.G
  pre := S.pre
  Y := S.Y × Nat
  m := S.m
  post x y := S.post x y.1 ∧ S.G' x y.1 y.2 = none
  res x y := Z.res x y.1 y.2
  heap' x y := Z.rest x y.1
  G' x y := addG y.2 (Z.obj x y.1) (S.G' x y.1)

theorem Con.soundF {S : Con} (Z : Frz S) {f : Nat} {twin : SpecT} (ht : SpecOk P f twin) (hv : S.Vc twin) : SpecOk P f (S.frz Z).spec := by
  intro args hp K h
  obtain ⟨(x : S.X), h⟩ := h
  change mState S.n (S.args x) args (S.heap x) (S.G x) hp [] (fun r =>
    bif allN S.n r && Nat.ble S.n S.m then S.pre x ∧ ∀ y : S.Y × Nat, (S.post x y.1 ∧ S.G' x y.1 y.2 = none) →
      K ((Z.res x y.1 y.2).ren (real S.n hp.n r)) ⟨hp.n + (S.m - S.n), renH (real S.n hp.n r) (heapOf (Z.rest x y.1)) ++ goneH (fpOf (S.heap x) r) hp.H, hp.R, addG y.2 (Z.obj x y.1) (S.G' x y.1)⟩
    else False) at h
  refine ⟨?_, fun F β w hS ha => ?_⟩
  · have : S.pre x := by
      obtain ⟨r1, h1, _⟩ := mArgs_sound _ _ _ _ h
      obtain ⟨r2, h2, _⟩ := mHeap_sound _ _ _ _ h1
      cases hi : injB r2 <;> rw [hi] at h2
      · exact h2.elim
      · have h3 : (bif (allN S.n r2 && Nat.ble S.n S.m) then _ else False) := h2.2
        cases hb : (allN S.n r2 && Nat.ble S.n S.m) <;> rw [hb] at h3
        · exact h3.elim
        · exact h3.1
    exact (ht _ _ _ (hv x this)).1
  · have hw : ∀ b ∈ args, b.wf β.length := fun b hb => (ha b hb).2
    obtain ⟨r, h1, _, hok, _, hargs, hone, hSc⟩ := mState_sound hS h (fun i j h => (by cases h)) hw
    cases hb : (allN S.n r && Nat.ble S.n S.m) <;> rw [hb] at h1
    · exact h1.elim
    · simp only [Bool.and_eq_true] at hb
      obtain ⟨hall, hnm⟩ := hb
      have hnm := Nat.le_of_ble_eq_true hnm
      obtain ⟨hpre, hK⟩ := h1
      have hcall := (ht _ _ _ (hv x hpre)).2 (F.off β hp (fpOf (S.heap x) r) w) (namesOf S.n r β) w hSc (by rw [namesOf_length]; exact hone)
      rw [hargs] at hcall
      refine hcall.mono ?_
      rintro e w' ⟨v, rfl, γ, sv, hp', k1, k2, k3, rfl, y, hpost, k5⟩
      refine ⟨_, rfl, ?_⟩
      have hlen : S.n ≤ (namesOf S.n r β ++ γ).length := by simp [namesOf_length]
      obtain ⟨r', c1, c2, c3, _, c5, c6, c7⟩ := mState_sound k1 k5 (idN_ok _ _ _ hnm hlen) (fun b hb => by rw [List.mem_singleton.1 hb]; exact k3)
      have hall' : allN S.m r' = true := by
        cases hb : allN S.m r' <;> rw [hb] at c1
        exact c1.elim
      have c7 := Sat.unoff k1 c7
      have hm := real_means (f := S.n) (r := r) (β := β) (δ := namesOf S.m r' (namesOf S.n r β ++ γ)) (by rw [namesOf_length]; exact hnm) hall hok fun i j hi hj => by
        rw [namesOf_blk (by omega) (c2 i i (idN_find hi)), blk_append (by rw [namesOf_length]; exact hi), namesOf_blk hi hj]
      have hn := hS.n
      have hback := Sat.back hS c7 hm (n := hp.n + (S.m - S.n)) (by simp [namesOf_length, hn])
      rw [← hn] at hback hm
      obtain ⟨q1, q2⟩ := c6 (S.res x y) (List.mem_singleton.2 rfl)
      have q2' : (S.res x y).wf (namesOf S.m r' (namesOf S.n r β ++ γ)).length := by rw [namesOf_length]; exact q2
      obtain ⟨p1, p2⟩ := SV.ren_vals hm (S.res x y) q2'
      have c5' : (S.res x y).val (namesOf S.m r' (namesOf S.n r β ++ γ)) = sv.val (namesOf S.n r β ++ γ) := by simpa using c5
      -- the block that stays
      have hreal : real S.n hp.n r Z.id = hp.n + (Z.id - S.n) := by
        have := Z.lo
        unfold real
        rw [blt_not (by omega), cond_false]
      have hne : ∀ i, i ≠ Z.id → i < S.m → real S.n hp.n r i ≠ real S.n hp.n r Z.id := by
        intro i hi him
        rw [hreal]
        unfold real
        by_cases hlt : i < S.n
        · rw [blt_of hlt, cond_true]
          have := (List.all_eq_true.1 hall) i (List.mem_range.2 hlt)
          cases hj : findN i r with
          | none => rw [hj] at this; cases this
          | some j =>
            have h2 := (hok i j hj).2
            simp only [Option.getD_some]
            omega
        · rw [blt_not (by omega), cond_false]
          have := Z.lo
          omega
      rw [Z.heap x y] at hback
      have hfz := Sat.freeze hback (id := real S.n hp.n r Z.id) (o := (Z.o x y).ren (real S.n hp.n r)) (H' := renH (real S.n hp.n r) (heapOf (Z.rest x y)) ++ goneH (fpOf (S.heap x) r) hp.H)
        (by simp [heapOf, renH, getH, beq_self]) fun j s hs => by
          have hj : j ≠ real S.n hp.n r Z.id := by
            rcases getH_app hs with hs | hs
            · obtain ⟨i, o', rfl, h2, _⟩ := getH_renH hs
              obtain ⟨e, he, rfl⟩ := getH_heapOf_mem h2
              have hlt := (c7.own e.1 o' (by rw [Z.heap x y, heapOf, getH_ne (Ne.symm (Z.other x y e he))]; exact h2)).1
              rw [namesOf_length] at hlt
              exact hne _ (Z.other x y e he) hlt
            · have := (hS.own j s (getH_goneH hs).2).1
              rw [hreal, hn]
              omega
          refine ⟨hj, ?_⟩
          simp only [heapOf, renH, List.cons_append]
          rw [getH_ne (Ne.symm hj)]
          exact hs
      obtain ⟨f1, f2⟩ := hfz
      rw [Z.den] at f2
      have w1 := Z.wf x y (blk (β ++ (namesOf S.m r' (namesOf S.n r β ++ γ)).drop S.n) (real S.n hp.n r Z.id)) _ q2'
      obtain ⟨p1', p2'⟩ := SV.ren_vals hm _ w1
      refine ⟨_, _, _, f2, by rw [SV.ren_one]; exact Z.one x y _, p2', ?_, hK (y, _) ⟨hpost, f1⟩⟩
      rw [Z.val, ← c5']
      simp [SV.val, p1]
end Vx
end
section
/- Blocks that are lent to a call: it reads them by their real addresses, and they are owned again behind it. -/
namespace Vx
open Go

def remG (a : Nat) (G : Nat → Option Obj) : Nat → Option Obj := fun b => if b = a then none else G b
theorem remG_add {a : Nat} {o : Obj} {G : Nat → Option Obj} (h : G a = none) : remG a (addG a o G) = G := by
  funext b
  simp only [remG, addG]
  by_cases e : b = a
  · subst e; rw [if_pos rfl, h]
  · rw [if_neg e, if_neg e]
/-- A block is owned again. -/
theorem Sat.untell {F : Fr} {β : List Nat} {n : Nat} {H : List (Nat × Option SObj)} {R : List (Nat × Nat)} {G : Nat → Option Obj} {w : World} (h : Sat F β ⟨n, H, R, G⟩ w) {id a : Nat} {o : SObj}
    (hid : id < β.length) (hb : blk β id = a) (ho : o.wf β.length) (hG : G a = some (o.den β)) : Sat F β ⟨n, (id, some o) :: H, R, remG a G⟩ w := by
  have hsub : ∀ b x, remG a G b = some x → b ≠ a ∧ G b = some x := fun b x hx => by
    simp only [remG] at hx
    by_cases e : b = a
    · rw [if_pos e] at hx; cases hx
    · rw [if_neg e] at hx; exact ⟨e, hx⟩
  have hF : F.h a = none := h.disj a _ hG
  have old : ∀ j x, j ≠ id → getH j ((id, some o) :: H) = some x → getH j H = some x := fun j x hj hx => by
    rw [getH_ne (Ne.symm hj)] at hx; exact hx
  have hne : ∀ j x, getH j H = some x → blk β j ≠ a := fun j x hx e => (h.own j x hx).2.2.1 (o.den β) (.inr (by rw [e]; exact hG))
  refine ⟨h.n, h.outer, fun b x hx => ?_, fun j x hx => ?_, fun j x k y hx hy hjk => ?_, h.ro, fun b x hx => h.disj b x (hsub b x hx).2⟩
  · rcases hx with hx | hx
    · exact h.ext b x (.inl hx)
    · exact h.ext b x (.inr (hsub b x hx).2)
  · by_cases hj : j = id
    · subst hj
      rw [getH_self] at hx
      cases hx
      refine ⟨hid, ho, fun y hy => ?_, by rw [hb]; exact h.ext _ _ (.inr hG)⟩
      rw [hb] at hy
      rcases hy with hy | hy
      · rw [hF] at hy; cases hy
      · exact (hsub _ _ hy).1 rfl
    · obtain ⟨g1, g2, g3, g4⟩ := h.own j x (old j x hj hx)
      exact ⟨g1, g2, fun y hy => g3 y (hy.imp (fun h => h) fun hy => (hsub _ _ hy).2), g4⟩
  · by_cases hj : j = id
    · subst hj
      rw [hb]
      exact Ne.symm (hne k y (old k y (Ne.symm hjk) hy))
    · by_cases hk : k = id
      · subst hk
        rw [hb]
        exact hne j x (old j x hj hx)
      · exact h.apart j x k y (old j x hj hx) (old k y hk hy) hjk

/-- A slice or a pointer into a block, by its real address. -/
def lentS (id a : Nat) : SV → SV
  | .slice j off l c => bif Nat.beq j id then .gsl (some ⟨a, off.den, none⟩) l c else .slice j off l c
  | .ptr j off => bif Nat.beq j id then .gptr a off.den else .ptr j off
  | x => x
def lentL (id a : Nat) : List SV → List SV
  | [] => []
  | x :: r => lentS id a x :: lentL id a r
/-- A block is lent to a call. -/
def lend (id : Nat) (s : SpecT) : SpecT := fun args hp K =>
  match getH id hp.H with
  | some (.cells l e z) => (match realVals l with
    | some vs => ∀ a : Nat, hp.G a = none → s (lentL id a args) ⟨hp.n, delH id hp.H, (id, a) :: hp.R, addG a (.cells vs.toArray e (fzOf z vs.length)) hp.G⟩
        fun v hp' => hp'.G a = some (.cells vs.toArray e (fzOf z vs.length)) ∧ K v ⟨hp'.n, (id, some (.cells l e z)) :: hp'.H, hp'.R, remG a hp'.G⟩
    | none => False)
  | _ => False
theorem lentS_ok {β : List Nat} {id a : Nat} (h : blk β id = a) (x : SV) (hx : x.one = true ∧ x.wf β.length) : (lentS id a x).one = true ∧ (lentS id a x).wf β.length ∧ (lentS id a x).val β = x.val β := by
  cases x with
  | slice j off l c =>
    simp only [lentS]
    cases hb : Nat.beq j id
    · exact ⟨hx.1, hx.2, rfl⟩
    · have := beq_t hb
      subst this
      exact ⟨rfl, trivial, by simp [SV.val, SV.vals, h]⟩
  | ptr j off =>
    simp only [lentS]
    cases hb : Nat.beq j id
    · exact ⟨hx.1, hx.2, rfl⟩
    · have := beq_t hb
      subst this
      exact ⟨rfl, trivial, by simp [SV.val, SV.vals, h]⟩
  | _ => exact ⟨hx.1, hx.2, rfl⟩
theorem lentL_ok {β : List Nat} {id a : Nat} (h : blk β id = a) : ∀ l : List SV, (∀ x ∈ l, x.one = true ∧ x.wf β.length) → (∀ x ∈ lentL id a l, x.one = true ∧ x.wf β.length) ∧ (lentL id a l).map (SV.val β) = l.map (SV.val β)
  | [], _ => ⟨(fun x hx => by cases hx), rfl⟩
  | x :: r, hl => by
    obtain ⟨g1, g2, g3⟩ := lentS_ok h x (hl x List.mem_cons_self)
    obtain ⟨k1, k2⟩ := lentL_ok h r fun y hy => hl y (List.mem_cons_of_mem _ hy)
    refine ⟨fun y hy => ?_, by simp [lentL, g3, k2]⟩
    rcases List.mem_cons.1 hy with rfl | hy
    · exact ⟨g1, g2⟩
    · exact k1 y hy
theorem lend_ok {P : Program} {f : Nat} {s : SpecT} (he : ∀ vs w, (callFunc f vs).run P w = .ok (.enter f vs) w) (hs : SpecOk P f s) (id : Nat) : SpecOk P f (lend id s) := by
  intro args hp K h
  unfold lend at h
  split at h
  · rename_i l e z hg
    split at h
    · rename_i vs hvs
      refine ⟨he, fun F β w hS ha => ?_⟩
      obtain ⟨g1, g2, g3, g4⟩ := hS.own id _ hg
      obtain ⟨hfree, hT⟩ := hS.tell hg
      have hden : (SObj.cells l e z).den β = .cells vs.toArray e (fzOf z vs.length) := by simp [SObj.den, realVals_vals β l vs hvs]
      rw [hden] at hT
      obtain ⟨k1, k2⟩ := lentL_ok (id := id) (a := blk β id) rfl args ha
      have hc := (hs _ _ _ (h _ hfree)).2 F β w hT k1
      rw [k2] at hc
      refine hc.mono ?_
      rintro en w' ⟨v, rfl, γ, sv, hp', q1, q2, q3, rfl, q5, q6⟩
      have hbk : blk (β ++ γ) id = blk β id := blk_append g1
      have hwf := SObj.wf_mono (n := β.length) (m := (β ++ γ).length) (by simp) _ g2
      exact ⟨_, rfl, γ, sv, _, Sat.untell (o := .cells l e z) q1 (by simp; omega) hbk hwf (by rw [SObj.den_append _ _ _ g2, hden]; exact q5), q2, q3, rfl, q6⟩
    · exact h.elim
  · exact h.elim
/-- The block of one argument is lent, if it is an owned one. -/
def lendA (i : Nat) (s : SpecT) : SpecT := fun args hp K =>
  match args.getD i .nil with
  | .slice id _ _ _ => lend id s args hp K
  | .ptr id _ => lend id s args hp K
  | .nilslice => s (args.set i (.gsl none (.lit 0) (.lit 0))) hp K
  | _ => s args hp K
theorem lendA_ok {P : Program} {f : Nat} {s : SpecT} (he : ∀ vs w, (callFunc f vs).run P w = .ok (.enter f vs) w) (hs : SpecOk P f s) (i : Nat) : SpecOk P f (lendA i s) := by
  intro args hp K h
  unfold lendA at h
  split at h
  · exact lend_ok he hs _ args hp K h
  · exact lend_ok he hs _ args hp K h
  · rename_i hi
    refine ⟨he, fun F β w hS ha => ?_⟩
    have hlt : i < args.length := by
      rcases Nat.lt_or_ge i args.length with h1 | h1
      · exact h1
      · rw [List.getD_eq_getElem?_getD, List.getElem?_eq_none h1] at hi; cases hi
    have hx : args[i] = .nilslice := by rw [List.getD_eq_getElem?_getD, List.getElem?_eq_getElem hlt] at hi; exact hi
    have hc := (hs _ _ _ h).2 F β w hS (fun x hx => ?_)
    · have : (args.set i (.gsl none (.lit 0) (.lit 0))).map (SV.val β) = args.map (SV.val β) := by
        rw [List.map_set]
        apply List.ext_getElem?
        intro j
        rw [List.getElem?_set]
        by_cases hj : i = j
        · subst hj
          simp [hlt, hx, SV.val, SV.vals, NE.den]
        · simp [hj]
      rw [this] at hc
      exact hc
    · rcases List.mem_or_eq_of_mem_set hx with hx | rfl
      · exact ha x hx
      · exact ⟨rfl, trivial⟩
  · exact hs args hp K h

/-! ### Results whose blocks are told by their real addresses -/

/-- The first block that a value names by a slice. -/
def sliceId : SV → Option Nat
  | .slice id _ _ _ => some id
  | .agg l => sliceId l
  | .tup l => sliceId l
  | .cons h t => (match sliceId h with
    | some i => some i
    | none => sliceId t)
  | _ => none
def toldS (id a : Nat) : SV → SV
  | .slice j off l c => bif Nat.beq j id then .gsl (some ⟨a, off.den, none⟩) l c else .slice j off l c
  | .agg l => .agg (toldS id a l)
  | .tup l => .tup (toldS id a l)
  | .cons h t => .cons (toldS id a h) (toldS id a t)
  | x => x
theorem toldS_ok {β : List Nat} {id a : Nat} (h : blk β id = a) (x : SV) : (x.wf β.length → (toldS id a x).wf β.length) ∧ (toldS id a x).vals β = x.vals β ∧ (toldS id a x).one = x.one := by
  induction x with
  | slice j off l c =>
    simp only [toldS]
    cases hb : Nat.beq j id
    · exact ⟨fun h => h, rfl, rfl⟩
    · have := beq_t hb
      subst this
      exact ⟨fun _ => trivial, by simp [SV.vals, h], rfl⟩
  | agg l ih => exact ⟨ih.1, by simp [toldS, SV.vals, ih.2.1], rfl⟩
  | tup l ih => exact ⟨ih.1, by simp [toldS, SV.vals, ih.2.1], rfl⟩
  | cons x y ihx ihy => exact ⟨fun h => ⟨ihx.1 h.1, ihy.1 h.2⟩, by simp [toldS, SV.vals, ihx.2.1, ihy.2.1], rfl⟩
  | _ => exact ⟨fun h => h, rfl, rfl⟩
/-- One block after the other is told. -/
def tells : Nat → SV → Hp → (SV → Hp → Prop) → Prop
  | 0, v, hp, K => K v hp
  | n + 1, v, hp, K => (match sliceId v with
    | none => K v hp
    | some id => (match getH id hp.H with
      | some (.cells l e z) => (match realVals l with
        | some vs => ∀ a : Nat, hp.G a = none → tells n (toldS id a v) ⟨hp.n, delH id hp.H, (id, a) :: hp.R, addG a (.cells vs.toArray e (fzOf z vs.length)) hp.G⟩ K
        | none => False)
      | _ => False))
theorem tells_sound {F : Fr} {β : List Nat} {w : World} {K : SV → Hp → Prop} : ∀ (n : Nat) (v : SV) (hp : Hp), Sat F β hp w → v.wf β.length → tells n v hp K →
    ∃ v' hp', K v' hp' ∧ Sat F β hp' w ∧ v'.wf β.length ∧ v'.val β = v.val β
  | 0, v, hp, hS, hw, h => ⟨v, hp, h, hS, hw, rfl⟩
  | n + 1, v, hp, hS, hw, h => by
    simp only [tells] at h
    split at h
    · exact ⟨v, hp, h, hS, hw, rfl⟩
    · rename_i id _
      split at h
      · rename_i l e z hg
        split at h
        · rename_i vs hvs
          obtain ⟨hfree, hT⟩ := hS.tell hg
          have hden : (SObj.cells l e z).den β = .cells vs.toArray e (fzOf z vs.length) := by simp [SObj.den, realVals_vals β l vs hvs]
          rw [hden] at hT
          obtain ⟨t1, t2, _⟩ := toldS_ok (id := id) (a := blk β id) rfl v
          obtain ⟨v', hp', k1, k2, k3, k4⟩ := tells_sound n _ _ hT (t1 hw) (h _ hfree)
          exact ⟨v', hp', k1, k2, k3, by rw [k4]; simp [SV.val, t2]⟩
        · exact h.elim
      · exact h.elim
/-- What has to be shown of a function's text whose result's blocks are told. -/
def Con.VcT (n : Nat) (T : Con) (twin : SpecT) : Prop := ∀ x : T.X, T.pre x →
  twin (T.args x) ⟨T.n, heapOf (T.heap x), [], T.G x⟩ fun v hp' => tells n v hp' fun v hp' => T.End x v hp'
theorem Con.soundT {P : Program} (n : Nat) {T : Con} {f : Nat} {twin : SpecT} (ht : SpecOk P f twin) (hv : T.VcT n twin) : SpecOk P f T.spec :=
  Con.soundOf ht (fun x F β γ hp hp' w w' r sv K hS hnm hall hok k1 k3 h hK => by
    obtain ⟨v', hp'', q1, q2, q3, q4⟩ := tells_sound n sv hp' k1 k3 h
    have := Con.End.yld hS hnm hall hok q2 q3 q1 hK
    rw [q4] at this
    exact this) hv
end Vx
end
section
/- Functions that only compute: what they do, said of numbers. -/
namespace Vx
open Go

/-- What arguments are made of: their numbers, one by one. -/
inductive AK where
  | int (k : IntKind)
  | bool
  | str
  | agg (l : AK)
  | nil
  | cons (h t : AK)
structure PX where
  i : Nat → Int
  b : Nat → Bool
  s : Nat → ByteArray
def AK.size : AK → Nat
  | .int _ | .bool | .str => 1
  | .agg l => l.size
  | .nil => 0
  | .cons h t => h.size + t.size
def AK.pat (x : PX) : AK → Nat → SV
  | .int k, n => .int k (.v (x.i n))
  | .bool, n => .bool (.v (x.b n))
  | .str, n => .str (.v (x.s n))
  | .agg l, n => .agg (l.pat x n)
  | .nil, _ => .nil
  | .cons h t, n => .cons (h.pat x n) (t.pat x (n + h.size))
def AK.args (x : PX) : AK → Nat → List SV
  | .cons h t, n => h.pat x n :: t.args x (n + h.size)
  | _, _ => []
def upd {α : Type} (f : Nat → α) (n : Nat) (v : α) : Nat → α := fun m => bif Nat.beq m n then v else f m
def AK.grab : AK → SV → Nat → PX → (PX → Prop) → Prop
  | .int k, .int k' e, n, x, K => bif decide (k = k') then K { x with i := upd x.i n e.den } else False
  | .bool, .bool e, n, x, K => K { x with b := upd x.b n e.den }
  | .str, .str e, n, x, K => K { x with s := upd x.s n e.den }
  | .agg a, .agg l, n, x, K => a.grab l n x K
  | .nil, .nil, _, x, K => K x
  | .cons a b, .cons h t, n, x, K => a.grab h n x fun x => b.grab t (n + a.size) x K
  | _, _, _, _, _ => False
def AK.grabs : AK → List SV → Nat → PX → (PX → Prop) → Prop
  | .cons a b, h :: t, n, x, K => a.grab h n x fun x => b.grabs t (n + a.size) x K
  | .nil, [], _, x, K => K x
  | _, _, _, _, _ => False
/-- Results. -/
inductive RD where
  | int (k : IntKind) (v : Int)
  | bool (v : Bool)
  | str (v : ByteArray)
  | agg (l : RD)
  | tup (l : RD)
  | nil
  | cons (h t : RD)
def RD.sv : RD → SV
  | .int k v => .int k (.v v)
  | .bool v => .bool (.v v)
  | .str v => .str (.v v)
  | .agg l => .agg l.sv
  | .tup l => .tup l.sv
  | .nil => .nil
  | .cons h t => .cons h.sv t.sv
def RD.one : RD → Bool
  | .nil | .cons .. => false
  | _ => true
def RD.use : RD → (SV → Prop) → Prop
  | .int k v, K => ∀ r : Int, r = v → K (.int k (.v r))
  | .bool v, K => ∀ r : Bool, r = v → K (.bool (.v r))
  | .str v, K => ∀ r : ByteArray, r = v → K (.str (.v r))
  | .agg l, K => l.use fun x => K (.agg x)
  | .tup l, K => l.use fun x => K (.tup x)
  | .nil, K => K .nil
  | .cons h t, K => h.use fun x => t.use fun y => K (.cons x y)
def RD.is : RD → SV → Prop → Prop
  | .int k v, .int k' e, K => bif decide (k = k') then v = e.den ∧ K else False
  | .bool v, .bool e, K => v = e.den ∧ K
  | .str v, .str e, K => v = e.den ∧ K
  | .agg l, .agg x, K => l.is x K
  | .tup l, .tup x, K => l.is x K
  | .nil, .nil, K => K
  | .cons h t, .cons x y, K => h.is x (t.is y K)
  | _, _, _ => False
theorem RD.use_sv : ∀ (r : RD) (K : SV → Prop), r.use K → K r.sv := by
  intro r
  induction r with
  | int k v => intro K h; exact h v rfl
  | bool v => intro K h; exact h v rfl
  | str v => intro K h; exact h v rfl
  | agg l ih => intro K h; exact ih _ h
  | tup l ih => intro K h; exact ih _ h
  | nil => intro K h; exact h
  | cons a b iha ihb => intro K h; exact ihb _ (iha _ h)
theorem RD.is_vals (β : List Nat) : ∀ (r : RD) (x : SV) (K : Prop), r.is x K → r.sv.vals β = x.vals β ∧ K := by
  intro r
  induction r with
  | int k v =>
    intro x K h
    cases x <;> try exact h.elim
    simp only [RD.is] at h
    rename_i k' e
    cases hd : decide (k = k') <;> rw [hd] at h
    · exact h.elim
    · have := of_decide_eq_true hd
      exact ⟨by simp [RD.sv, SV.vals, IE.den, h.1, this], h.2⟩
  | bool v =>
    intro x K h
    cases x <;> try exact h.elim
    exact ⟨by simp [RD.sv, SV.vals, BE.den, h.1], h.2⟩
  | str v =>
    intro x K h
    cases x <;> try exact h.elim
    exact ⟨by simp [RD.sv, SV.vals, SE.den, h.1], h.2⟩
  | agg l ih =>
    intro x K h
    cases x <;> try exact h.elim
    obtain ⟨h1, h2⟩ := ih _ _ h
    exact ⟨by simp [RD.sv, SV.vals, h1], h2⟩
  | tup l ih =>
    intro x K h
    cases x <;> try exact h.elim
    obtain ⟨h1, h2⟩ := ih _ _ h
    exact ⟨by simp [RD.sv, SV.vals, h1], h2⟩
  | nil =>
    intro x K h
    cases x <;> try exact h.elim
    exact ⟨rfl, h⟩
  | cons a b iha ihb =>
    intro x K h
    cases x <;> try exact h.elim
    obtain ⟨h1, h⟩ := iha _ _ h
    obtain ⟨h2, h⟩ := ihb _ _ h
    exact ⟨by simp [RD.sv, SV.vals, h1, h2], h⟩
theorem RD.sv_wf (n : Nat) : ∀ r : RD, r.sv.wf n := by
  intro r
  induction r with
  | agg l ih => exact ih
  | tup l ih => exact ih
  | cons a b iha ihb => exact ⟨iha, ihb⟩
  | _ => trivial
theorem RD.sv_one (r : RD) : r.sv.one = r.one := by cases r <;> rfl

/-- Numbers above a place stay. -/
def PX.Like (n : Nat) (x y : PX) : Prop := ∀ m, m < n → x.i m = y.i m ∧ x.b m = y.b m ∧ x.s m = y.s m
theorem AK.pat_like {x y : PX} : ∀ (a : AK) (n : Nat), PX.Like (n + a.size) x y → a.pat x n = a.pat y n := by
  intro a
  induction a with
  | int k => intro n h; simp only [AK.pat]; rw [(h n (by simp [AK.size])).1]
  | bool => intro n h; simp only [AK.pat]; rw [(h n (by simp [AK.size])).2.1]
  | str => intro n h; simp only [AK.pat]; rw [(h n (by simp [AK.size])).2.2]
  | agg l ih => intro n h; simp only [AK.pat]; rw [ih n h]
  | nil => intro n h; rfl
  | cons a b iha ihb =>
    intro n h
    simp only [AK.pat]
    rw [iha n (fun m hm => h m (by simp only [AK.size]; omega)), ihb (n + a.size) (fun m hm => h m (by simp only [AK.size]; omega))]
theorem upd_ne {α : Type} (f : Nat → α) {n m : Nat} (v : α) (h : m < n) : upd f n v m = f m := by
  simp only [upd]
  rw [beq_ne (by omega)]; rfl
theorem upd_eq {α : Type} (f : Nat → α) (n : Nat) (v : α) : upd f n v n = v := by simp [upd]
theorem AK.grab_sound (β : List Nat) : ∀ (a : AK) (v : SV) (n : Nat) (x : PX) (K : PX → Prop), a.grab v n x K → ∃ y, K y ∧ PX.Like n x y ∧ (a.pat y n).vals β = v.vals β := by
  intro a
  induction a with
  | int k =>
    intro v n x K h
    cases v <;> try exact h.elim
    simp only [AK.grab] at h
    rename_i k' e
    cases hd : decide (k = k') <;> rw [hd] at h
    · exact h.elim
    · have := of_decide_eq_true hd
      exact ⟨_, h, fun m hm => ⟨(upd_ne _ _ hm).symm, rfl, rfl⟩, by simp [AK.pat, SV.vals, IE.den, upd_eq, this]⟩
  | bool =>
    intro v n x K h
    cases v <;> try exact h.elim
    exact ⟨_, h, fun m hm => ⟨rfl, (upd_ne _ _ hm).symm, rfl⟩, by simp [AK.pat, SV.vals, BE.den, upd_eq]⟩
  | str =>
    intro v n x K h
    cases v <;> try exact h.elim
    exact ⟨_, h, fun m hm => ⟨rfl, rfl, (upd_ne _ _ hm).symm⟩, by simp [AK.pat, SV.vals, SE.den, upd_eq]⟩
  | agg l ih =>
    intro v n x K h
    cases v <;> try exact h.elim
    obtain ⟨y, h1, h2, h3⟩ := ih _ _ _ _ h
    exact ⟨y, h1, h2, by simp [AK.pat, SV.vals, h3]⟩
  | nil =>
    intro v n x K h
    cases v <;> try exact h.elim
    exact ⟨x, h, fun _ _ => ⟨rfl, rfl, rfl⟩, rfl⟩
  | cons a b iha ihb =>
    intro v n x K h
    cases v <;> try exact h.elim
    obtain ⟨y, h1, h2, h3⟩ := iha _ _ _ _ h
    obtain ⟨z, g1, g2, g3⟩ := ihb _ _ _ _ h1
    refine ⟨z, g1, fun m hm => ?_, ?_⟩
    · obtain ⟨a1, a2, a3⟩ := h2 m hm
      obtain ⟨b1, b2, b3⟩ := g2 m (by omega)
      exact ⟨a1.trans b1, a2.trans b2, a3.trans b3⟩
    · simp only [AK.pat, SV.vals]
      rw [g3, ← AK.pat_like a n g2, h3]
theorem AK.args_like {x y : PX} : ∀ (a : AK) (n : Nat), PX.Like (n + a.size) x y → a.args x n = a.args y n := by
  intro a
  induction a with
  | cons a b _ ihb =>
    intro n h
    simp only [AK.args]
    rw [AK.pat_like a n (fun m hm => h m (by simp only [AK.size]; omega)), ihb (n + a.size) (fun m hm => h m (by simp only [AK.size]; omega))]
  | _ => intro n h; rfl
theorem AK.grabs_sound (β : List Nat) : ∀ (a : AK) (l : List SV) (n : Nat) (x : PX) (K : PX → Prop), a.grabs l n x K → ∃ y, K y ∧ PX.Like n x y ∧ (a.args y n).map (SV.val β) = l.map (SV.val β) := by
  intro a
  induction a with
  | cons a b _ ihb =>
    intro l n x K h
    cases l with
    | nil => exact h.elim
    | cons v l =>
      simp only [AK.grabs] at h
      obtain ⟨y, h1, h2, h3⟩ := AK.grab_sound β a v n x _ h
      obtain ⟨z, g1, g2, g3⟩ := ihb _ _ _ _ h1
      refine ⟨z, g1, fun m hm => ?_, ?_⟩
      · obtain ⟨a1, a2, a3⟩ := h2 m hm
        obtain ⟨b1, b2, b3⟩ := g2 m (by omega)
        exact ⟨a1.trans b1, a2.trans b2, a3.trans b3⟩
      · simp only [AK.args, List.map_cons]
        rw [g3, ← AK.pat_like a n g2]
        simp [SV.val, h3]
  | nil =>
    intro l n x K h
    cases l with
    | nil => exact ⟨x, h, fun _ _ => ⟨rfl, rfl, rfl⟩, rfl⟩
    | cons v l => exact h.elim
  | _ => intro l n x K h; exact h.elim
/-- Values, not rows. -/
def AK.ones : AK → Bool
  | .nil => true
  | .cons h t => (match h with
    | .nil | .cons .. => false
    | _ => true) && t.ones
  | _ => false
theorem AK.pat_wf (x : PX) (m : Nat) : ∀ (a : AK) (n : Nat), (a.pat x n).wf m := by
  intro a
  induction a with
  | agg l ih => intro n; exact ih n
  | cons a b iha ihb => intro n; exact ⟨iha n, ihb _⟩
  | _ => intro n; trivial
theorem AK.args_ok (x : PX) (m : Nat) : ∀ (a : AK) (n : Nat), a.ones = true → ∀ v ∈ a.args x n, v.one = true ∧ v.wf m := by
  intro a
  induction a with
  | cons a b _ ihb =>
    intro n h v hv
    simp only [AK.ones, Bool.and_eq_true] at h
    rcases List.mem_cons.1 hv with rfl | hv
    · refine ⟨?_, AK.pat_wf x m a n⟩
      cases a <;> first | rfl | cases h.1
    · exact ihb _ h.2 v hv
  | _ => intro n h v hv; cases hv

structure PureS where
  a : AK
  pre : PX → Prop
  res : PX → RD
def PX.zero : PX := ⟨fun _ => 0, fun _ => false, fun _ => ByteArray.empty⟩
/-- How a call of such a function is followed. -/
def PureS.spec (S : PureS) : SpecT := fun args hp K => S.a.grabs args 0 .zero fun x => S.pre x ∧ (S.pre x → (S.res x).use fun v => K v hp)
/-- What has to be shown of its text. -/
def PureS.Vc (S : PureS) (twin : SpecT) : Prop := ∀ x : PX, S.pre x → ∀ hp : Hp, twin (S.a.args x 0) hp fun v hp' => (S.res x).is v (hp' = hp)
theorem PureS.sound {P : Program} {S : PureS} {f : Nat} {twin : SpecT} (ha : S.a.ones = true) (hr : ∀ x, (S.res x).one = true) (ht : SpecOk P f twin) (hv : S.Vc twin) : SpecOk P f S.spec := by
  intro args hp K h
  refine ⟨?_, fun F β w hS hargs => ?_⟩
  · obtain ⟨x, ⟨h1, _⟩, _⟩ := AK.grabs_sound [] S.a args 0 _ _ h
    exact (ht _ _ _ (hv x h1 hp)).1
  · obtain ⟨x, ⟨h1, h2⟩, _, h3⟩ := AK.grabs_sound β S.a args 0 _ _ h
    have hc := (ht _ _ _ (hv x h1 hp)).2 F β w hS (AK.args_ok x _ S.a 0 ha)
    rw [h3] at hc
    refine hc.mono ?_
    rintro e w' ⟨v, rfl, γ, sv, hp', k1, k2, k3, rfl, k5⟩
    obtain ⟨g1, rfl⟩ := RD.is_vals (β ++ γ) _ _ _ k5
    exact ⟨_, rfl, γ, _, _, k1, by rw [RD.sv_one, hr], RD.sv_wf _ _, by simp [SV.val, g1], RD.use_sv _ _ (h2 h1)⟩

/-- Literals alone? -/
def litSV : SV → Bool
  | .int _ (.lit _) | .bool (.lit _) | .str (.lit _) | .nil => true
  | .agg l => litSV l
  | .cons h t => litSV h && litSV t
  | _ => false
def litOr (s t : SpecT) : SpecT := fun args hp K => bif args.all litSV then s args hp K else t args hp K
theorem litOr_ok {P : Program} {f : Nat} {s t : SpecT} (hs : SpecOk P f s) (ht : SpecOk P f t) : SpecOk P f (litOr s t) := by
  intro args hp K h
  unfold litOr at h
  cases hb : args.all litSV <;> rw [hb] at h
  · exact ht args hp K h
  · exact hs args hp K h
end Vx
end
