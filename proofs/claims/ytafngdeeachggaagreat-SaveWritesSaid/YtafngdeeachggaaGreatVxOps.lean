/- The operations of the model on symbolic values, and that they do what the model does. -/
import Derived.Test.YtafngdeeachggaaGreatVxHeap
import Derived.Laws.Entries
set_option linter.unusedVariables false
set_option linter.unusedSimpArgs false
namespace Vx
open Go

/-- What a run leaves: a value that a symbolic one names, in a world that the symbolic heap describes. -/
def Yld (F : Fr) (β : List Nat) (K : SV → Hp → Prop) (v : Value) (w' : World) : Prop :=
  ∃ γ sv hp', Sat F (β ++ γ) hp' w' ∧ sv.one = true ∧ sv.wf (β ++ γ).length ∧ v = sv.val (β ++ γ) ∧ K sv hp'
def Runs (P : Program) (F : Fr) (β : List Nat) (w : World) (s : Sem Value) (K : SV → Hp → Prop) : Prop :=
  ∃ v w', s.run P w = .ok v w' ∧ Yld F β K v w'

section
variable {P : Program} {F : Fr} {β : List Nat} {hp : Hp} {w : World} {K : SV → Hp → Prop}

theorem yld_same (h : Sat F β hp w) {sv : SV} {v : Value} (h1 : sv.one = true) (h2 : sv.wf β.length) (h3 : v = sv.val β) (hK : K sv hp) : Yld F β K v w :=
  ⟨[], sv, hp, by simpa using h, h1, by simpa using h2, by simpa using h3, hK⟩

theorem runs_pure (h : Sat F β hp w) {s : Sem Value} {sv : SV} {v : Value} (hs : s.run P w = .ok v w) (h1 : sv.one = true) (h2 : sv.wf β.length) (h3 : v = sv.val β) (hK : K sv hp) :
    Runs P F β w s K := ⟨v, w, hs, yld_same h h1 h2 h3 hK⟩

/-! ### Numbers -/

/-- A number that is a literal, or has a name of its own. -/
def litI (e : Option Int) (t : Int) (K : IE → Prop) : Prop :=
  match e with
  | some n => K (.lit n)
  | none => ∀ r : Int, r = t → K (.v r)

def two (f : Int → Int → Int) (a b : IE) (K : IE → Prop) : Prop :=
  match a, b with
  | .lit x, .lit y => K (.lit (f x y))
  | a, b => ∀ r : Int, r = f a.den b.den → K (.v r)
theorem two_sound {f : Int → Int → Int} {a b : IE} {K : IE → Prop} (h : two f a b K) : ∃ e : IE, e.den = f a.den b.den ∧ K e := by
  unfold two at h
  split at h
  · exact ⟨_, rfl, h⟩
  · exact ⟨_, rfl, h _ rfl⟩

def twoB (f : Int → Int → Bool) (a b : IE) (K : BE → Prop) : Prop :=
  match a, b with
  | .lit x, .lit y => K (.lit (f x y))
  | a, b => K (.v (f a.den b.den))
theorem twoB_sound {f : Int → Int → Bool} {a b : IE} {K : BE → Prop} (h : twoB f a b K) : ∃ e : BE, e.den = f a.den b.den ∧ K e := by
  unfold twoB at h
  split at h <;> exact ⟨_, rfl, h⟩

def bits (op : BinOp) (k : IntKind) (x y : Int) : Int :=
  let a := BitVec.ofInt k.bits x
  let b := BitVec.ofInt k.bits y
  match op with
  | .and => k.wrap (a &&& b).toNat
  | .or => k.wrap (a ||| b).toNat
  | .xor => k.wrap (a ^^^ b).toNat
  | _ => k.wrap (a &&& ~~~b).toNat

def shft (op : BinOp) (k : IntKind) (x y : Int) : Int :=
  match op with
  | .shl => k.wrap (x * 2 ^ (min y.toNat k.bits))
  | _ => x.fdiv (2 ^ (min y.toNat k.bits))

/-- Is a number not 0, or not below 0, for sure? -/
def isLit (p : Int → Bool) : IE → Bool
  | .lit n => p n
  | .v _ => false
def orSure (p : Int → Bool) (e : IE) (K : Prop) : Prop :=
  bif isLit p e then K else (p e.den = true ∧ (p e.den = true → K))
theorem orSure_sound {p : Int → Bool} {e : IE} {K : Prop} (h : orSure p e K) : p e.den = true ∧ K := by
  unfold orSure at h
  cases hl : isLit p e <;> rw [hl] at h
  · exact ⟨h.1, h.2 h.1⟩
  · cases e
    · exact ⟨hl, h⟩
    · cases hl

def xInt (op : BinOp) (k : IntKind) (a b : IE) (K : SV → Prop) : Prop :=
  match op with
  | .add => two (fun x y => k.wrap (x + y)) a b fun e => K (.int k e)
  | .sub => two (fun x y => k.wrap (x - y)) a b fun e => K (.int k e)
  | .mul => two (fun x y => k.wrap (x * y)) a b fun e => K (.int k e)
  | .quo => orSure (fun y => !(y == 0)) b <| two (fun x y => k.wrap (x.tdiv y)) a b fun e => K (.int k e)
  | .rem => orSure (fun y => !(y == 0)) b <| two (fun x y => x.tmod y) a b fun e => K (.int k e)
  | .and => two (bits .and k) a b fun e => K (.int k e)
  | .or => two (bits .or k) a b fun e => K (.int k e)
  | .xor => two (bits .xor k) a b fun e => K (.int k e)
  | .andNot => two (bits .andNot k) a b fun e => K (.int k e)
  | .eql => twoB (fun x y => x == y) a b fun e => K (.bool e)
  | .neq => twoB (fun x y => x != y) a b fun e => K (.bool e)
  | .lss => twoB (fun x y => decide (x < y)) a b fun e => K (.bool e)
  | .leq => twoB (fun x y => decide (x ≤ y)) a b fun e => K (.bool e)
  | .gtr => twoB (fun x y => decide (x > y)) a b fun e => K (.bool e)
  | .geq => twoB (fun x y => decide (x ≥ y)) a b fun e => K (.bool e)
  | .shl | .shr => False

def xShift (op : BinOp) (k : IntKind) (a b : IE) (K : SV → Prop) : Prop :=
  orSure (fun y => decide (0 ≤ y)) b <| two (shft op k) a b fun e => K (.int k e)

def notB : BE → BE
  | .lit b => .lit (!b)
  | .v b => .v (!b)
theorem notB_den (b : BE) : (notB b).den = !b.den := by cases b <;> rfl
def eqS (a b : SE) : BE :=
  match a, b with
  | .lit x, .lit y => .lit (x.toList == y.toList)
  | a, b => .v (a.den.toList == b.den.toList)
theorem eqS_den (a b : SE) : (eqS a b).den = (a.den.toList == b.den.toList) := by
  unfold eqS; split <;> rfl
def catS (a b : SE) (K : SE → Prop) : Prop :=
  match a, b with
  | .lit x, .lit y => bif decide (((x.size + y.size : Nat) : Int) ≤ IntKind.i64.max) then K (.lit (x ++ y)) else False
  | a, b => ((a.den.size + b.den.size : Nat) : Int) ≤ IntKind.i64.max ∧ (∀ r : ByteArray, r = a.den ++ b.den → K (.v r))
theorem catS_sound {a b : SE} {K : SE → Prop} (h : catS a b K) : ((a.den.size + b.den.size : Nat) : Int) ≤ IntKind.i64.max ∧ ∃ e : SE, e.den = a.den ++ b.den ∧ K e := by
  unfold catS at h
  split at h
  · rename_i x y
    cases hd : decide (((x.size + y.size : Nat) : Int) ≤ IntKind.i64.max) <;> rw [hd] at h
    · exact h.elim
    · exact ⟨of_decide_eq_true hd, _, rfl, h⟩
  · exact ⟨h.1, _, rfl, h.2 _ rfl⟩

/-- Is a pointer, a slice or a map nil? -/
def isNil : SV → Option Bool
  | .nilptr | .nilslice | .nilmap => some true
  | .ptr .. | .slice .. | .map .. => some false
  | _ => none

/-- What may be held against nil, by its type. -/
def nilable (d : TypeDesc) (x y : SV) : Bool :=
  match d, x, y with
  | .pointer _, .nilptr, .nilptr | .pointer _, .nilptr, .ptr .. | .pointer _, .ptr .., .nilptr => true
  | .slice _, .nilslice, .nilslice | .slice _, .nilslice, .slice .. | .slice _, .slice .., .nilslice => true
  | .map _ _, .nilmap, .nilmap | .map _ _, .nilmap, .map _ | .map _ _, .map _, .nilmap => true
  | _, _, _ => false

def xEq (P : Program) (neg : Bool) (t : TypeId) (x y : SV) (K : SV → Prop) : Prop :=
  match P.underlying t with
  | none => False
  | some d =>
    match x, y with
    | .bool a, .bool b =>
      (match d with
      | .bool => match a, b with
        | .lit p, .lit q => K (.bool (.lit (bif neg then !(p == q) else p == q)))
        | a, b => K (.bool (.v (bif neg then !(a.den == b.den) else a.den == b.den)))
      | _ => False)
    | x, y =>
      bif nilable d x y then
        match isNil x, isNil y with
        | some p, some q => K (.bool (.lit (bif neg then !(p == q) else p == q)))
        | _, _ => False
      else False

def xBin (P : Program) (op : BinOp) (t : TypeId) (x y : SV) (K : SV → Prop) : Prop :=
  match x, y with
  | .int k a, .int k' b =>
    (match op with
    | .shl | .shr => xShift op k a b K
    | _ => bif decide (k = k') then xInt op k a b K else False)
  | .str a, .str b =>
    (match op with
    | .add => catS a b fun e => K (.str e)
    | .eql => K (.bool (eqS a b))
    | .neq => K (.bool (notB (eqS a b)))
    | _ => False)
  | x, y =>
    match op with
    | .eql => xEq P false t x y K
    | .neq => xEq P true t x y K
    | _ => False

theorem run_intBits (op : BinOp) (k : IntKind) (x y : Int) (w : World) (h : op = .and ∨ op = .or ∨ op = .xor ∨ op = .andNot) :
    (Op.intBits op k x y).run P w = .ok (.int k (bits op k x y)) w := by
  rcases h with rfl | rfl | rfl | rfl <;> rfl

theorem val_int (k : IntKind) (e : IE) : (SV.int k e).val β = .int k e.den := rfl
theorem val_bool (e : BE) : (SV.bool e).val β = .bool e.den := rfl
theorem val_str (e : SE) : (SV.str e).val β = .string e.den := rfl

theorem xInt_sound {op : BinOp} {k : IntKind} {a b : IE} {t : TypeId} {K : SV → Prop} (h : xInt op k a b K) :
    ∃ sv, K sv ∧ sv.one = true ∧ sv.wf β.length ∧ ∀ w, (Go.binOp op t (.int k a.den) (.int k b.den)).run P w = .ok (sv.val β) w := by
  cases op <;> simp only [xInt] at h <;> try exact h.elim
  case quo =>
    obtain ⟨h0, h⟩ := orSure_sound h
    obtain ⟨e, he, hK⟩ := two_sound h
    refine ⟨_, hK, rfl, trivial, fun w => ?_⟩
    have : b.den ≠ 0 := by simpa using h0
    simp [Go.binOp, Op.intDiv, this, val_int, he]
  case rem =>
    obtain ⟨h0, h⟩ := orSure_sound h
    obtain ⟨e, he, hK⟩ := two_sound h
    refine ⟨_, hK, rfl, trivial, fun w => ?_⟩
    have : b.den ≠ 0 := by simpa using h0
    simp [Go.binOp, Op.intDiv, this, val_int, he]
  all_goals first
    | (obtain ⟨e, he, hK⟩ := two_sound h
       refine ⟨_, hK, rfl, trivial, fun w => ?_⟩
       first
         | (rw [val_int, he]; simp [Go.binOp, Op.intArith]; done)
         | (rw [val_int, he]; simp only [Go.binOp, ne_eq, not_true_eq_false, if_false]; exact run_intBits _ _ _ _ _ (by simp)))
    | (obtain ⟨e, he, hK⟩ := twoB_sound h
       refine ⟨_, hK, rfl, trivial, fun w => ?_⟩
       rw [val_bool, he]
       simp [Go.binOp, Op.intCmp])

theorem xShift_sound {op : BinOp} (hop : op = .shl ∨ op = .shr) {k k' : IntKind} {a b : IE} {t : TypeId} {K : SV → Prop} (h : xShift op k a b K) :
    ∃ sv, K sv ∧ sv.one = true ∧ sv.wf β.length ∧ ∀ w, (Go.binOp op t (.int k a.den) (.int k' b.den)).run P w = .ok (sv.val β) w := by
  obtain ⟨h0, h⟩ := orSure_sound h
  obtain ⟨e, he, hK⟩ := two_sound h
  refine ⟨_, hK, rfl, trivial, fun w => ?_⟩
  have h1 : ¬ b.den < 0 := by have := of_decide_eq_true h0; omega
  rcases hop with rfl | rfl <;> simp [Go.binOp, Op.shift, h1, val_int, he, shft]

theorem eqGuard_none (op : BinOp) (t : TypeId) (x y : Operand) (a b : Value) (w : World) (h1 : a ≠ .nilIface ∨ b ≠ .nilIface) (h2 : (∀ c, a ≠ .agg c) ∨ (∀ c, b ≠ .agg c)) :
    (eqGuard op t x y a b).run P w = .ok () w := by
  have h3 : ∀ op, (op = .eql ∨ op = .neq) → (eqGuard op t x y a b).run P w = .ok () w := by
    intro op hop
    unfold eqGuard
    rcases hop with rfl | rfl <;> simp only [Bool.not_true, Bool.false_eq_true, if_false] <;> split <;> first
      | (rcases h1 with h1 | h1 <;> exact absurd rfl h1)
      | (rcases h2 with h2 | h2 <;> exact absurd rfl (h2 _))
      | rfl
  cases op <;> first | rfl | exact h3 _ (.inl rfl) | exact h3 _ (.inr rfl)

theorem run_equal_def (t : TypeId) (x y : Value) : Op.equal t x y = Op.equalIn (9999 + 1) t x y := rfl

theorem run_equal_bool {t : TypeId} (h : P.underlying t = some .bool) (a b : Bool) (w : World) : (Op.equal t (.bool a) (.bool b)).run P w = .ok (a == b) w := by
  have key : ∀ n, (Op.equalIn (n + 1) t (.bool a) (.bool b)).run P w = .ok (a == b) w := fun n => by simp [Op.equalIn, run_underlying h]
  exact key 9999
theorem run_equal_nil {t : TypeId} {d : TypeDesc} (h : P.underlying t = some d) {x y : SV} {p q : Bool} (hn : nilable d x y = true) (hx : isNil x = some p) (hy : isNil y = some q) (w : World) :
    (Op.equal t (x.val β) (y.val β)).run P w = .ok (p == q) w := by
  suffices key : ∀ n, (Op.equalIn (n + 1) t (x.val β) (y.val β)).run P w = .ok (p == q) w from key 9999
  intro n
  unfold nilable at hn
  split at hn <;> (first | cases hn | skip) <;> simp only [isNil, Option.some.injEq] at hx hy <;> subst hx <;> subst hy <;> simp [Op.equalIn, run_underlying h, SV.val, SV.vals]

theorem xEq_sound {neg : Bool} {t : TypeId} {x y : SV} {K : SV → Prop} (h : xEq P neg t x y K) :
    ∃ sv p, K sv ∧ sv.one = true ∧ sv.wf β.length ∧ sv.val β = .bool (bif neg then !p else p) ∧ (∀ w, (Op.equal t (x.val β) (y.val β)).run P w = .ok p w) ∧
      ((∃ a b, x = .bool a ∧ y = .bool b) ∨ ∃ d, nilable d x y = true) := by
  unfold xEq at h
  split at h
  · exact h.elim
  · rename_i d hd
    split at h
    · rename_i a b
      split at h
      · split at h
        · rename_i p q
          exact ⟨_, p == q, h, rfl, trivial, rfl, fun w => run_equal_bool hd p q w, .inl ⟨_, _, rfl, rfl⟩⟩
        · exact ⟨_, a.den == b.den, h, rfl, trivial, rfl, fun w => run_equal_bool hd a.den b.den w, .inl ⟨_, _, rfl, rfl⟩⟩
      · exact h.elim
    · cases hb : nilable d x y <;> rw [hb] at h
      · exact h.elim
      · simp only [cond_true] at h
        split at h
        · rename_i p q hp hq
          exact ⟨_, p == q, h, rfl, trivial, rfl, fun w => run_equal_nil hd hb hp hq w, .inr ⟨d, hb⟩⟩
        · exact h.elim

theorem xBin_sound {op : BinOp} {t : TypeId} {x y : SV} {K : SV → Prop} (h : xBin P op t x y K) :
    ∃ sv, K sv ∧ sv.one = true ∧ sv.wf β.length ∧ ∀ (ox oy : Operand) w, (do eqGuard op t ox oy (x.val β) (y.val β); Go.binOp op t (x.val β) (y.val β) : Sem Value).run P w = .ok (sv.val β) w := by
  have fin : ∀ sv, ((x.val β) ≠ .nilIface ∨ (y.val β) ≠ .nilIface) → ((∀ c, (x.val β) ≠ .agg c) ∨ (∀ c, (y.val β) ≠ .agg c)) →
      (∀ w, (Go.binOp op t (x.val β) (y.val β)).run P w = .ok (sv.val β) w) → ∀ (ox oy : Operand) w,
      (do eqGuard op t ox oy (x.val β) (y.val β); Go.binOp op t (x.val β) (y.val β) : Sem Value).run P w = .ok (SV.val β sv) w := by
    intro sv h1 h2 h3 ox oy w
    simp only [Sem.run_bind, eqGuard_none op t ox oy _ _ w h1 h2, Result.andThen_ok, h3]
  unfold xBin at h
  split at h
  · rename_i k a k' b
    have h1 : (SV.val β (.int k a)) ≠ .nilIface := by simp [val_int]
    have h2 : ∀ c, (SV.val β (.int k a)) ≠ .agg c := by simp [val_int]
    split at h
    · obtain ⟨sv, hK, a1, a2, a3⟩ := xShift_sound (β := β) (P := P) (t := t) (k' := k') (.inl rfl) h
      exact ⟨sv, hK, a1, a2, fin sv (.inl h1) (.inl h2) a3⟩
    · obtain ⟨sv, hK, a1, a2, a3⟩ := xShift_sound (β := β) (P := P) (t := t) (k' := k') (.inr rfl) h
      exact ⟨sv, hK, a1, a2, fin sv (.inl h1) (.inl h2) a3⟩
    · cases hd : decide (k = k') <;> rw [hd] at h
      · exact h.elim
      · have := of_decide_eq_true hd
        subst this
        obtain ⟨sv, hK, a1, a2, a3⟩ := xInt_sound (β := β) (P := P) (t := t) h
        exact ⟨sv, hK, a1, a2, fin sv (.inl h1) (.inl h2) a3⟩
  · rename_i a b
    have h1 : (SV.val β (.str a)) ≠ .nilIface := by simp [val_str]
    have h2 : ∀ c, (SV.val β (.str a)) ≠ .agg c := by simp [val_str]
    split at h
    · obtain ⟨hs, e, he, hK⟩ := catS_sound h
      refine ⟨_, hK, rfl, trivial, fin _ (.inl h1) (.inl h2) fun w => ?_⟩
      have hn : ¬ ((a.den.size + b.den.size : Nat) : Int) > IntKind.i64.max := by omega
      simp only [val_str, Go.binOp, Op.stringOp, he]
      rw [if_neg hn]; rfl
    · refine ⟨_, h, rfl, trivial, fin _ (.inl h1) (.inl h2) fun w => ?_⟩
      simp [val_str, val_bool, Go.binOp, Op.stringOp, eqS_den]
    · refine ⟨_, h, rfl, trivial, fin _ (.inl h1) (.inl h2) fun w => ?_⟩
      simp [val_str, val_bool, Go.binOp, Op.stringOp, eqS_den, notB_den]
    · exact h.elim
  · have go : ∀ neg, (op = bif neg then .neq else .eql) → xEq P neg t x y K → ∃ sv, K sv ∧ sv.one = true ∧ sv.wf β.length ∧ ∀ (ox oy : Operand) w,
        (do eqGuard op t ox oy (x.val β) (y.val β); Go.binOp op t (x.val β) (y.val β) : Sem Value).run P w = .ok (sv.val β) w := by
      intro neg hop h
      obtain ⟨sv, p, hK, a1, a2, a3, a4, a5⟩ := xEq_sound (β := β) h
      refine ⟨sv, hK, a1, a2, ?_⟩
      rcases a5 with ⟨a, b, rfl, rfl⟩ | ⟨d, hd⟩
      · refine fin sv (.inl (by simp [val_bool])) (.inl (by simp [val_bool])) fun w => ?_
        cases neg <;> subst hop <;> simp only [cond_true, cond_false, val_bool, Go.binOp] at a3 a4 ⊢ <;> simp [a4, a3]
      · unfold nilable at hd
        split at hd <;> (first | cases hd | skip) <;>
          (refine fin sv (.inl (by simp [SV.val, SV.vals])) (.inl (by simp [SV.val, SV.vals])) fun w => ?_
           rw [a3]
           clear a3
           cases neg <;> subst hop <;> simp only [cond_true, cond_false, SV.val, SV.vals, List.headD_cons, Go.binOp] at a4 ⊢ <;> simp [a4])
    split at h
    · exact go false rfl h
    · exact go true rfl h
    · exact h.elim
end
end Vx
