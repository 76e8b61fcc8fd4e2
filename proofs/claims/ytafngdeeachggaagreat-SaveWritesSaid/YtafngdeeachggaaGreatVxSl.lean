/- Slices, texts, conversions, the built-in functions. -/
import Derived.Test.YtafngdeeachggaaGreatVxNew
import Derived.Deep.AppendSrc
set_option linter.unusedVariables false
set_option linter.unusedSimpArgs false
namespace Vx
open Go

section
variable {P : Program} {F : Fr} {β : List Nat} {hp : Hp} {w : World} {zt : List (TypeId × SV)}

theorem NE_lit (n : Nat) : (NE.lit n).den = n := rfl
/-! ### Lengths -/
def NE.i : NE → IE
  | .lit n => .lit n
  | .v n => .v n
theorem NE.i_den (n : NE) : n.i.den = (n.den : Int) := by cases n <;> rfl
def IE.n : IE → NE
  | .lit n => .lit n.toNat
  | .v n => .v n.toNat
theorem IE.n_den (e : IE) : e.n.den = e.den.toNat := by cases e <;> rfl
def SE.size : SE → NE
  | .lit s => .lit s.size
  | .v s => .v s.size
theorem SE.size_den (s : SE) : s.size.den = s.den.size := by cases s <;> rfl

def xLen (P : Program) (t : TypeId) (x : SV) (hp : Hp) (K : SV → Prop) : Prop :=
  match P.underlying t, x with
  | some .string, .str s => K (.int .i64 s.size.i)
  | some (.array n _), _ => K (.int .i64 (.lit n))
  | some (.slice _), .nilslice => K (.int .i64 (.lit 0))
  | some (.slice _), .slice _ _ n _ => K (.int .i64 n.i)
  | some (.slice _), .gsl _ n _ => K (.int .i64 n.i)
  | some (.map _ _), .nilmap => K (.int .i64 (.lit 0))
  | some (.map _ _), .map id => (match getB id hp with
    | some (.map es _) => K (.int .i64 (.lit es.length))
    | _ => False)
  | _, _ => False
theorem xLen_sound {t ty : TypeId} {x : SV} {K : SV → Prop} (h : xLen P t x hp K) :
    ∃ sv, K sv ∧ sv.one = true ∧ sv.wf β.length ∧ ∀ w', Sat F β hp w' → (Builtin.len_ #[t] ty #[x.val β]).run P w' = .ok (sv.val β) w' := by
  unfold xLen at h
  split at h
  · rename_i s hd
    exact ⟨_, h, rfl, trivial, fun w' hS' => by simp [Builtin.len_, run_underlying hd, val_str, val_int, goInt, NE.i_den, SE.size_den]⟩
  · rename_i n el hd
    exact ⟨_, h, rfl, trivial, fun w' hS' => by simp [Builtin.len_, run_underlying hd, val_int, goInt, IE.den]⟩
  · rename_i el hd
    exact ⟨_, h, rfl, trivial, fun w' hS' => by simp [Builtin.len_, run_underlying hd, val_int, goInt, IE.den, SV.val, SV.vals]⟩
  · rename_i el id off n cap hd
    exact ⟨_, h, rfl, trivial, fun w' hS' => by simp [Builtin.len_, run_underlying hd, val_int, goInt, NE.i_den, SV.val, SV.vals]⟩
  · rename_i el a n cap hd
    exact ⟨_, h, rfl, trivial, fun w' hS' => by simp [Builtin.len_, run_underlying hd, val_int, goInt, NE.i_den, SV.val, SV.vals]⟩
  · rename_i k el hd
    exact ⟨_, h, rfl, trivial, fun w' hS' => by simp [Builtin.len_, run_underlying hd, val_int, goInt, IE.den, SV.val, SV.vals]⟩
  · rename_i k el id hd
    split at h
    · rename_i es c hg
      refine ⟨_, h, rfl, trivial, fun w' hS' => ?_⟩
      obtain ⟨_, _, g3⟩ := hS'.get hg
      simp [Builtin.len_, run_underlying hd, val_int, goInt, IE.den, SV.val, SV.vals, getObj, Sem.run, g3, SObj.den]
    · exact h.elim
  · exact h.elim

def xLenP (P : Program) (t : TypeId) (x : SV) (K : SV → Prop) : Prop :=
  match P.underlying t, x with
  | some .string, .str s => K (.int .i64 s.size.i)
  | some (.array n _), _ => K (.int .i64 (.lit n))
  | some (.slice _), .nilslice => K (.int .i64 (.lit 0))
  | some (.slice _), .slice _ _ n _ => K (.int .i64 n.i)
  | some (.slice _), .gsl _ n _ => K (.int .i64 n.i)
  | _, _ => False
theorem xLenP_sound {t ty : TypeId} {x : SV} {K : SV → Prop} (h : xLenP P t x K) :
    ∃ sv, K sv ∧ sv.one = true ∧ sv.wf β.length ∧ ∀ w', (Builtin.len_ #[t] ty #[x.val β]).run P w' = .ok (sv.val β) w' := by
  unfold xLenP at h
  split at h
  · rename_i s hd
    exact ⟨_, h, rfl, trivial, fun w' => by simp [Builtin.len_, run_underlying hd, val_str, val_int, goInt, NE.i_den, SE.size_den]⟩
  · rename_i n el hd
    exact ⟨_, h, rfl, trivial, fun w' => by simp [Builtin.len_, run_underlying hd, val_int, goInt, IE.den]⟩
  · rename_i el hd
    exact ⟨_, h, rfl, trivial, fun w' => by simp [Builtin.len_, run_underlying hd, val_int, goInt, IE.den, SV.val, SV.vals]⟩
  · rename_i el id off n cap hd
    exact ⟨_, h, rfl, trivial, fun w' => by simp [Builtin.len_, run_underlying hd, val_int, goInt, NE.i_den, SV.val, SV.vals]⟩
  · rename_i el a n cap hd
    exact ⟨_, h, rfl, trivial, fun w' => by simp [Builtin.len_, run_underlying hd, val_int, goInt, NE.i_den, SV.val, SV.vals]⟩
  · exact h.elim

def xCap (P : Program) (t : TypeId) (x : SV) (K : SV → Prop) : Prop :=
  match P.underlying t, x with
  | some (.array n _), _ => K (.int .i64 (.lit n))
  | some (.slice _), .nilslice => K (.int .i64 (.lit 0))
  | some (.slice _), .slice _ _ _ n => K (.int .i64 n.i)
  | some (.slice _), .gsl _ _ n => K (.int .i64 n.i)
  | _, _ => False
theorem xCap_sound {t ty : TypeId} {x : SV} {K : SV → Prop} (h : xCap P t x K) :
    ∃ sv, K sv ∧ sv.one = true ∧ sv.wf β.length ∧ ∀ w, (Builtin.cap_ #[t] ty #[x.val β]).run P w = .ok (sv.val β) w := by
  unfold xCap at h
  split at h
  · rename_i n el hd
    exact ⟨_, h, rfl, trivial, fun w => by simp [Builtin.cap_, run_underlying hd, val_int, goInt, IE.den]⟩
  · rename_i el hd
    exact ⟨_, h, rfl, trivial, fun w => by simp [Builtin.cap_, run_underlying hd, val_int, goInt, IE.den, SV.val, SV.vals]⟩
  · rename_i el id off n cap hd
    exact ⟨_, h, rfl, trivial, fun w => by simp [Builtin.cap_, run_underlying hd, val_int, goInt, NE.i_den, SV.val, SV.vals]⟩
  · rename_i el a n cap hd
    exact ⟨_, h, rfl, trivial, fun w => by simp [Builtin.cap_, run_underlying hd, val_int, goInt, NE.i_den, SV.val, SV.vals]⟩
  · exact h.elim

def xMinMax (mn : Bool) (x y : SV) (K : SV → Prop) : Prop :=
  match x, y with
  | .int k a, .int _ b => two (fun x y => bif mn then (if y < x then y else x) else (if y > x then y else x)) a b fun e => K (.int k e)
  | _, _ => False
theorem xMin_sound {x y : SV} {K : SV → Prop} (h : xMinMax true x y K) :
    ∃ sv, K sv ∧ sv.one = true ∧ sv.wf β.length ∧ ∀ (ts : Array TypeId) (ty : TypeId) w, (Builtin.min_ ts ty #[x.val β, y.val β]).run P w = .ok (sv.val β) w := by
  unfold xMinMax at h
  split at h
  · obtain ⟨e, he, hK⟩ := two_sound h
    exact ⟨_, hK, rfl, trivial, fun ts ty w => by simp [Builtin.min_, Builtin.min2, val_int, he]⟩
  · exact h.elim
theorem xMax_sound {x y : SV} {K : SV → Prop} (h : xMinMax false x y K) :
    ∃ sv, K sv ∧ sv.one = true ∧ sv.wf β.length ∧ ∀ (ts : Array TypeId) (ty : TypeId) w, (Builtin.max_ ts ty #[x.val β, y.val β]).run P w = .ok (sv.val β) w := by
  unfold xMinMax at h
  split at h
  · obtain ⟨e, he, hK⟩ := two_sound h
    exact ⟨_, hK, rfl, trivial, fun ts ty w => by simp [Builtin.max_, Builtin.max2, val_int, he]⟩
  · exact h.elim

/-! ### One operand -/
def one1 (f : Int → Int) (a : IE) (K : IE → Prop) : Prop :=
  match a with
  | .lit x => K (.lit (f x))
  | .v x => ∀ r : Int, r = f x → K (.v r)
theorem one1_sound {f : Int → Int} {a : IE} {K : IE → Prop} (h : one1 f a K) : ∃ e : IE, e.den = f a.den ∧ K e := by
  cases a
  · exact ⟨_, rfl, h⟩
  · exact ⟨_, rfl, h _ rfl⟩
def xUn (op : UnOp) (x : SV) (K : SV → Prop) : Prop :=
  match op, x with
  | .neg, .int k a => one1 (fun x => k.wrap (0 - x)) a fun e => K (.int k e)
  | .xor, .int k a => one1 (fun x => bits .xor k (if k.signed then -1 else k.max) x) a fun e => K (.int k e)
  | .not, .bool b => K (.bool (notB b))
  | _, _ => False
theorem xUn_sound {op : UnOp} {x : SV} {K : SV → Prop} (h : xUn op x K) :
    ∃ sv, K sv ∧ sv.one = true ∧ sv.wf β.length ∧ ∀ w, (Op.unary op (x.val β)).run P w = .ok (sv.val β) w := by
  unfold xUn at h
  split at h
  · obtain ⟨e, he, hK⟩ := one1_sound h
    exact ⟨_, hK, rfl, trivial, fun w => by simp [Op.unary, Op.intArith, val_int, he]⟩
  · obtain ⟨e, he, hK⟩ := one1_sound h
    refine ⟨_, hK, rfl, trivial, fun w => ?_⟩
    simp only [Op.unary, val_int, he]
    exact run_intBits _ _ _ _ _ (by simp)
  · exact ⟨_, h, rfl, trivial, fun w => by simp [Op.unary, val_bool, notB_den]⟩
  · exact h.elim

def xExtract (x : SV) (i : Nat) (K : SV → Prop) : Prop :=
  match x with
  | .tup l => rowGet l i none K
  | _ => False
theorem xExtract_sound {x : SV} {i : Nat} {K : SV → Prop} (hx : x.wf β.length) (h : xExtract x i K) :
    ∃ sv, K sv ∧ sv.one = true ∧ sv.wf β.length ∧ ∀ w, (Instr.extract (x.val β) i).run P w = .ok (sv.val β) w := by
  unfold xExtract at h
  split at h
  · rename_i l
    obtain ⟨sv, h1, h2, h3, h4⟩ := rowGet_sound β l i none K hx h
    refine ⟨sv, h1, h2, h3, fun w => ?_⟩
    simp only [iD, Option.getD_none, Nat.add_zero] at h4
    simp only [Instr.extract, SV.val, SV.vals, List.headD_cons, List.getElem?_toArray, h4]
    rfl
  · exact h.elim

def plainD (d : TypeDesc) : Bool :=
  match d with
  | .interface _ => false
  | _ => true
def xIface (P : Program) (t : TypeId) (x : SV) (K : SV → Prop) : Prop :=
  match P.underlying t with
  | some d => bif plainD d then K (.iface t x) else False
  | none => False
theorem xIface_sound {t : TypeId} {x : SV} {K : SV → Prop} (h1 : x.one = true) (hx : x.wf β.length) (h : xIface P t x K) :
    ∃ sv, K sv ∧ sv.one = true ∧ sv.wf β.length ∧ ∀ w, (Instr.makeInterface t (x.val β)).run P w = .ok (sv.val β) w := by
  unfold xIface at h
  split at h
  · rename_i d hd
    cases hp : plainD d <;> rw [hp] at h
    · exact h.elim
    · refine ⟨_, h, rfl, hx, fun w => ?_⟩
      simp only [Instr.makeInterface, Sem.run_bind, run_underlying hd, Result.andThen_ok]
      cases d <;> first | rfl | cases hp
  · exact h.elim

/-! ### Slices of slices and texts -/

/-- A bound, or what stands for it. -/
def bnd (x : Option SV) (d : NE) (K : NE → Prop) : Prop :=
  match x with
  | none => K d
  | some (.int _ e) => K e.n
  | _ => False
def leE (e : IE) (n : NE) (K : Prop) : Prop :=
  match e, n with
  | .lit a, .lit m => bif decide (0 ≤ a ∧ a ≤ (m : Int)) then K else False
  | e, n => (0 ≤ e.den ∧ e.den ≤ (n.den : Int)) ∧ ((0 ≤ e.den ∧ e.den ≤ (n.den : Int)) → K)
theorem leE_sound {e : IE} {n : NE} {K : Prop} (h : leE e n K) : 0 ≤ e.den ∧ e.den ≤ (n.den : Int) ∧ K := by
  unfold leE at h
  split at h
  · rename_i a m
    cases hd : decide (0 ≤ a ∧ a ≤ (m : Int)) <;> rw [hd] at h
    · exact h.elim
    · have := of_decide_eq_true hd
      exact ⟨this.1, this.2, h⟩
  · exact ⟨h.1.1, h.1.2, h.2 h.1⟩
/-- 0 ≤ i and i ≤ n, by literals where they are. -/
def leI (x : Option SV) (n : NE) (K : Prop) : Prop :=
  match x with
  | none => K
  | some (.int _ e) => leE e n K
  | _ => False
theorem leI_some {x : SV} {n : NE} {K : Prop} (h : leI (some x) n K) : ∃ k e, x = .int k e ∧ 0 ≤ e.den ∧ e.den ≤ (n.den : Int) ∧ K := by
  cases x <;> first | exact h.elim | skip
  rename_i k e
  obtain ⟨h1, h2, h3⟩ := leE_sound h
  exact ⟨k, e, rfl, h1, h2, h3⟩
/-- Is a number at most another one? -/
def leN (a b : NE) (K : Prop) : Prop :=
  match a, b with
  | .lit x, .lit y => bif Nat.ble x y then K else False
  | a, b => a.den ≤ b.den ∧ (a.den ≤ b.den → K)
theorem leN_sound {a b : NE} {K : Prop} (h : leN a b K) : a.den ≤ b.den ∧ K := by
  unfold leN at h
  split at h
  · rename_i x y
    cases hb : Nat.ble x y <;> rw [hb] at h
    · exact h.elim
    · exact ⟨Nat.le_of_ble_eq_true hb, h⟩
  · exact ⟨h.1, h.2 h.1⟩

def subN (a b : NE) : NE :=
  match a, b with
  | .lit x, .lit y => .lit (x - y)
  | a, b => .v (a.den - b.den)
theorem subN_den (a b : NE) : (subN a b).den = a.den - b.den := by unfold subN; split <;> rfl

theorem run_sliceBound {x : SV} {n : NE} {K : Prop} (h : leI (some x) n K) (code : BoundsCode) : ∃ e : IE, (∃ k, x = .int k e) ∧ e.den.toNat ≤ n.den ∧ K ∧ ∀ w, (Instr.sliceBound (x.val β) n.den code).run P w = .ok e.den.toNat w := by
  obtain ⟨k, e, rfl, h1, h2, hK⟩ := leI_some h
  refine ⟨e, ⟨k, rfl⟩, by omega, hK, fun w => ?_⟩
  simp [Instr.sliceBound, val_int, asIntOf, h1, h2]

/-- The bounds of a slice expression, checked: low, high, the new capacity's end. -/
def xBounds (len cap : NE) (lo hi mx : Option SV) (K : NE → NE → NE → Prop) : Prop :=
  leI mx cap <| bnd mx cap fun m =>
    leI hi m <| bnd hi len fun h =>
      leI lo h <| bnd lo (.lit 0) fun l => (match hi, mx with | none, some _ => False | _, _ => K l h m)

theorem xBounds_sound {b : Bool} {len cap : NE} {lo hi mx : Option SV} {K : NE → NE → NE → Prop} (hlc : len.den ≤ cap.den) (h : xBounds len cap lo hi mx K) :
    ∃ l h' m, K l h' m ∧ l.den ≤ h'.den ∧ h'.den ≤ m.den ∧ m.den ≤ cap.den ∧
      ∀ w, (Instr.sliceBounds b len.den cap.den (lo.map (SV.val β)) (hi.map (SV.val β)) (mx.map (SV.val β))).run P w = .ok (l.den, h'.den, m.den) w := by
  unfold xBounds at h
  cases mx with
  | none =>
    cases hi with
    | none =>
      cases lo with
      | none => exact ⟨_, _, _, h, Nat.zero_le _, hlc, Nat.le_refl _, fun w => rfl⟩
      | some z =>
        obtain ⟨d, ⟨k, rfl⟩, h1, h2, h3⟩ := run_sliceBound (β := β) (P := P) (n := len) h .sliceB
        refine ⟨d.n, len, cap, h2, by rw [IE.n_den]; exact h1, hlc, Nat.le_refl _, fun w => ?_⟩
        simp [Instr.sliceBounds, h3, IE.n_den]
    | some x =>
      obtain ⟨e, ⟨k, rfl⟩, g1, g2, g3⟩ := run_sliceBound (β := β) (P := P) (n := cap) h (if b then .sliceAcap else .sliceAlen)
      cases lo with
      | none => exact ⟨.lit 0, e.n, cap, g2, Nat.zero_le _, by rw [IE.n_den]; exact g1, Nat.le_refl _, fun w => by simp [Instr.sliceBounds, g3, IE.n_den, NE_lit]⟩
      | some z =>
        obtain ⟨d, ⟨k, rfl⟩, h1, h2, h3⟩ := run_sliceBound (β := β) (P := P) (n := e.n) g2 .sliceB
        rw [IE.n_den] at h1 h3
        exact ⟨d.n, e.n, cap, h2, by rw [IE.n_den, IE.n_den]; exact h1, by rw [IE.n_den]; exact g1, Nat.le_refl _, fun w => by simp [Instr.sliceBounds, g3, h3, IE.n_den]⟩
  | some y =>
    obtain ⟨f, ⟨k', rfl⟩, f1, f2, f3⟩ := run_sliceBound (β := β) (P := P) (n := cap) h (if b then .slice3Acap else .slice3Alen)
    cases hi with
    | none =>
      cases lo with
      | none => exact f2.elim
      | some z =>
        obtain ⟨d, ⟨k, rfl⟩, h1, h2, h3⟩ := run_sliceBound (β := β) (P := P) (n := len) f2 .sliceB
        exact h2.elim
    | some x =>
      obtain ⟨e, ⟨k, rfl⟩, g1, g2, g3⟩ := run_sliceBound (β := β) (P := P) (n := f.n) f2 .slice3B
      rw [IE.n_den] at g1 g3
      cases lo with
      | none => exact ⟨.lit 0, e.n, f.n, g2, Nat.zero_le _, by rw [IE.n_den, IE.n_den]; exact g1, by rw [IE.n_den]; exact f1, fun w => by simp [Instr.sliceBounds, f3, g3, IE.n_den, NE_lit]⟩
      | some z =>
        obtain ⟨d, ⟨k, rfl⟩, h1, h2, h3⟩ := run_sliceBound (β := β) (P := P) (n := e.n) g2 .slice3C
        rw [IE.n_den] at h1 h3
        exact ⟨d.n, e.n, f.n, h2, by rw [IE.n_den, IE.n_den]; exact h1, by rw [IE.n_den, IE.n_den]; exact g1, by rw [IE.n_den]; exact f1, fun w => by simp [Instr.sliceBounds, f3, g3, h3, IE.n_den]⟩

/-- The place where a slice of a slice begins: it stays where nothing is behind it. -/
def cutOff (off : Off) (l m : NE) (s : Nat) (K : Off → Prop) : Prop :=
  match l, m with
  | .lit 0, _ => K off
  | .lit a, .lit b => K (bif Nat.beq b a then off else off.add (a * s))
  | l, m => ∀ r : Nat, (m.den ≠ l.den → r = l.den) → (m.den = l.den → r = 0) → K (off.idx (.v r) s)
theorem cutOff_sound {off : Off} {l m : NE} {s : Nat} {K : Off → Prop} (h : cutOff off l m s K) : ∃ o : Off, K o ∧ o.den = if m.den = l.den then off.den else off.den + l.den * s := by
  unfold cutOff at h
  split at h
  · exact ⟨off, h, by simp [NE.den]⟩
  · rename_i a b _
    refine ⟨_, h, ?_⟩
    cases hb : Nat.beq b a
    · simp [NE.den, beq_f hb, Off.add_den]
    · simp [NE.den, beq_t hb]
  · have := h (if m.den = l.den then 0 else l.den) (fun h => by simp [h]) (fun h => by simp [h])
    refine ⟨_, this, ?_⟩
    rw [Off.idx_den]
    split <;> simp [IE.den]

def cutS (s : SE) (l h : NE) (K : SE → Prop) : Prop :=
  match s, l, h with
  | .lit s, .lit a, .lit b => K (.lit (s.extract a b))
  | s, l, h => ∀ r : ByteArray, r = s.den.extract l.den h.den → K (.v r)
theorem cutS_sound {s : SE} {l h : NE} {K : SE → Prop} (hh : cutS s l h K) : ∃ e : SE, e.den = s.den.extract l.den h.den ∧ K e := by
  unfold cutS at hh
  split at hh
  · exact ⟨_, rfl, hh⟩
  · exact ⟨_, rfl, hh _ rfl⟩

def xSlice (P : Program) (t : TypeId) (x : SV) (lo hi mx : Option SV) (K : SV → Prop) : Prop :=
  match P.underlying t, x with
  | some .string, .str s => (match mx with
    | none => xBounds s.size s.size lo hi none fun l h _ => cutS s l h fun e => K (.str e)
    | some _ => False)
  | some (.slice el), .slice id off len cap => (match P.info? el with
    | some inf => leN len cap <| xBounds len cap lo hi mx fun l h m => cutOff off l m inf.size fun o => K (.slice id o (subN h l) (subN m l))
    | none => False)
  | some (.slice el), .gsl a len cap => (match P.info? el with
    | some inf => leN len cap <| xBounds len cap lo hi mx fun l h m => ∀ a', a' = (if m.den = l.den then a else a.map (·.add (l.den * inf.size))) → K (.gsl a' (subN h l) (subN m l))
    | none => False)
  | some (.slice el), .nilslice => (match P.info? el with
    | some _ => xBounds (.lit 0) (.lit 0) lo hi mx fun _ _ _ => K .nilslice
    | none => False)
  | some (.array n el), .ptr id off => (match P.info? el with
    | some inf => xBounds (.lit n) (.lit n) lo hi mx fun l h m => cutOff off l m inf.size fun o => K (.slice id o (subN h l) (subN m l))
    | none => False)
  | _, _ => False

theorem xSlice_sound {t : TypeId} {x : SV} {lo hi mx : Option SV} {K : SV → Prop} (hx : x.wf β.length) (h : xSlice P t x lo hi mx K) :
    ∃ sv, K sv ∧ sv.one = true ∧ sv.wf β.length ∧ ∀ w, (Instr.sliceAt t (x.val β) (lo.map (SV.val β)) (hi.map (SV.val β)) (mx.map (SV.val β))).run P w = .ok (sv.val β) w := by
  unfold xSlice at h
  split at h
  · rename_i s hd
    split at h
    · obtain ⟨l, h', m, hK, _, _, _, hr⟩ := xBounds_sound (β := β) (P := P) (b := false) (Nat.le_refl _) h
      obtain ⟨e, he, hK⟩ := cutS_sound hK
      refine ⟨_, hK, rfl, trivial, fun w => ?_⟩
      rw [SE.size_den] at hr
      simp only [Option.map_none] at hr ⊢
      simp [Instr.sliceAt, Instr.slice, run_underlying hd, val_str, hr, he]
    · exact h.elim
  · rename_i el id off len cap hd
    split at h
    · rename_i inf hi'
      obtain ⟨hlc, h⟩ := leN_sound h
      obtain ⟨l, h', m, hK, h1, h2, h3, hr⟩ := xBounds_sound (β := β) (P := P) (b := true) hlc h
      obtain ⟨o, hK, ho⟩ := cutOff_sound hK
      refine ⟨_, hK, rfl, hx, fun w => ?_⟩
      have hv : (SV.slice id off len cap).val β = .slice (some ⟨blk β id, off.den, none⟩) len.den cap.den := rfl
      rw [hv]
      simp only [Instr.sliceAt, Instr.slice, Sem.run_bind, run_underlying hd, Result.andThen_ok, hr, Go.sizeOf, typeInfo, run_program, hi', Sem.run_pure]
      simp only [SV.val, SV.vals, List.headD_cons, subN_den, ho]
      split <;> simp [addr_add]
    · exact h.elim
  · rename_i el a len cap hd
    split at h
    · rename_i inf hi'
      obtain ⟨hlc, h⟩ := leN_sound h
      obtain ⟨l, h', m, hK, h1, h2, h3, hr⟩ := xBounds_sound (β := β) (P := P) (b := true) hlc h
      refine ⟨_, hK _ rfl, rfl, trivial, fun w => ?_⟩
      have hv : (SV.gsl a len cap).val β = .slice a len.den cap.den := rfl
      rw [hv]
      simp only [Instr.sliceAt, Instr.slice, Sem.run_bind, run_underlying hd, Result.andThen_ok, hr, Go.sizeOf, typeInfo, run_program, hi', Sem.run_pure]
      simp only [SV.val, SV.vals, List.headD_cons, subN_den]
    · exact h.elim
  · rename_i el hd
    split at h
    · rename_i inf hi'
      obtain ⟨l, h', m, hK, h1, h2, h3, hr⟩ := xBounds_sound (β := β) (P := P) (b := true) (Nat.le_refl _) h
      refine ⟨_, hK, rfl, trivial, fun w => ?_⟩
      have hv : (SV.nilslice).val β = .slice none 0 0 := rfl
      rw [NE_lit] at hr h3
      have hm : m.den = 0 := by omega
      have hh : h'.den = 0 := by omega
      have hl : l.den = 0 := by omega
      rw [hv]
      simp [Instr.sliceAt, Instr.slice, run_underlying hd, hr, Go.sizeOf, typeInfo, hi', hm, hh, hl]
    · exact h.elim
  · rename_i n el id off hd
    split at h
    · rename_i inf hi'
      obtain ⟨l, h', m, hK, h1, h2, h3, hr⟩ := xBounds_sound (β := β) (P := P) (b := false) (Nat.le_refl _) h
      obtain ⟨o, hK, ho⟩ := cutOff_sound hK
      refine ⟨_, hK, rfl, hx, fun w => ?_⟩
      have hv : (SV.ptr id off).val β = .pointer (some ⟨blk β id, off.den, none⟩) := rfl
      rw [hv]
      rw [NE_lit] at hr
      simp only [Instr.sliceAt, Sem.run_bind, run_underlying hd, Result.andThen_ok, Instr.sureAddr, hr, Go.sizeOf, typeInfo, run_program, hi', Sem.run_pure]
      simp only [SV.val, SV.vals, List.headD_cons, subN_den, ho]
      split <;> simp [addr_add]
    · exact h.elim
  · exact h.elim
end
end Vx
