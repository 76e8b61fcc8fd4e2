/- Code, loops, functions. -/
import Derived.Test.YtafngdeeachggaaGreatVxAny
set_option linter.unusedVariables false
set_option linter.unusedSimpArgs false
namespace Vx
open Go

inductive XE where
  | normal
  | exit (id : Nat)
  | ret
abbrev KT := XE → Tm → Hp → Prop
abbrev BodyT := Tm → Hp → KT → Prop

/-- What is asked of an ending. -/
def QK (F : Fr) (β : List Nat) (K : KT) : Exit → Act → World → Prop
  | .normal, a, w => Post F β (K .normal) a w
  | .exit id, a, w => Post F β (K (.exit id)) a w
  | .ret, a, w => Post F β (K .ret) a w
  | _, _, _ => False

theorem QK.later {F : Fr} {β γ : List Nat} {K : KT} {e : Exit} {a : Act} {w : World} (h : QK F (β ++ γ) K e a w) : QK F β K e a w := by
  cases e <;> first | exact Post.later h | exact h

/-- A code's symbolic twin says what is so. -/
def BodyOk (P : Program) (c : Code) (bx : BodyT) : Prop :=
  ∀ (F : Fr) (β : List Nat) (T : Tm) (hp : Hp) (a : Act) (w : World) (K : KT), TOk β T a → Sat F β hp w → bx T hp K → c.wp P (QK F β K) a w
/-- A way to go round. -/
abbrev LoopT := BodyT → BodyT
def LoopOk (P : Program) (L : LoopT) : Prop := ∀ c bx, BodyOk P c bx → BodyOk P (.loop c) (L bx)

/-- Round and round, at most so often. -/
def iter (bx : BodyT) : Nat → BodyT
  | 0, _, _, _ => False
  | n + 1, T, hp, K => bx T hp fun e T' hp' => (match e with
    | .normal => iter bx n T' hp' K
    | e => K e T' hp')

theorem iter_rounds {P : Program} {c : Code} {bx : BodyT} (hb : BodyOk P c bx) (F : Fr) (K : KT) : ∀ (n : Nat) (β : List Nat) (T : Tm) (hp : Hp) (a : Act) (w : World),
    TOk β T a → Sat F β hp w → iter bx n T hp K → ∀ (Q : Exit → Act → World → Prop), (∀ e a w, QK F β K e a w → Q e a w) → Code.rounds P c Q n a w
  | 0, β, T, hp, a, w, _, _, h, Q, _ => h.elim
  | n + 1, β, T, hp, a, w, hT, hS, h, Q, hQ => by
    show c.wp P (Exit.then (Code.rounds P c Q n) Q) a w
    refine wp_mono (hb F β T hp a w _ hT hS h) fun e a' w' hq => ?_
    cases e with
    | normal =>
      obtain ⟨γ, T', hp', h1, h2, h3⟩ := hq
      exact iter_rounds hb F K n (β ++ γ) T' hp' a' w' h1 h2 h3 Q fun e a w h => hQ e a w h.later
    | exit id =>
      obtain ⟨γ, T', hp', h1, h2, h3⟩ := hq
      exact hQ (.exit id) a' w' ⟨γ, T', hp', h1, h2, h3⟩
    | ret =>
      obtain ⟨γ, T', hp', h1, h2, h3⟩ := hq
      exact hQ .ret a' w' ⟨γ, T', hp', h1, h2, h3⟩
    | goto l => exact hq.elim
    | panic c => exact hq.elim
    | outgrown => exact hq.elim
theorem iter_ok (P : Program) (n : Nat) : LoopOk P fun bx => iter bx n := by
  intro c bx hb F β T hp a w K hT hS h
  exact wp_loop_rounds n (iter_rounds hb F K n β T hp a w hT hS h _ fun _ _ _ h => h)

/-- How the loops of a block are gone round; what is done with a region as a whole. -/
structure Ways where
  loop : Nat → LoopT
  reg : Nat → LoopT := fun _ bx => bx
/-- A way to see a piece of code. -/
def PieceOk (P : Program) (L : LoopT) : Prop := ∀ c bx, BodyOk P c bx → BodyOk P c (L bx)
structure WaysOk (P : Program) (W : Ways) : Prop where
  loop : ∀ b, LoopOk P (W.loop b)
  reg : ∀ i, PieceOk P (W.reg i)
def xCode (C : Cfg) (call : Nat → SpecT) (L : Ways) : Nat → Code → BodyT
  | _, .skip => fun T hp K => K .normal T hp
  | _, .region id ops draw => L.reg id fun T hp K => xRegion C call ops draw T hp (K .normal)
  | b, .seq x y => fun T hp K => xCode C call L b x T hp fun e T' hp' => (match e with
    | .normal => xCode C call L b y T' hp' K
    | e => K e T' hp')
  | b, .cond c x y => fun T hp K => (match ev T c with
    | .bool (.lit t) => bif t then xCode C call L b x T hp K else xCode C call L b y T hp K
    | .bool (.v t) => (t = true → xCode C call L b x T hp K) ∧ (t = false → xCode C call L b y T hp K)
    | _ => False)
  | _, .block id x => fun T hp K => xCode C call L id x T hp fun e T' hp' => (match e with
    | .exit j => bif Nat.beq j id then K .normal T' hp' else K (.exit j) T' hp'
    | e => K e T' hp')
  | b, .loop x => L.loop b (xCode C call L b x)
  | _, .exit id => fun T hp K => K (.exit id) T hp
  | _, .ret => fun T hp K => K .ret T hp
  | _, .label _ => fun T hp K => K .normal T hp
  | _, _ => fun _ _ _ => False

theorem xCode_ok {C : Cfg} (hC : CfgOk C) {call : Nat → SpecT} (hcall : CallOk C.P call) {L : Ways} (hL : WaysOk C.P L) (c : Code) : ∀ b, BodyOk C.P c (xCode C call L b c) := by
  induction c with
  | skip => intro b F β T hp a w K hT hS h; exact wp_skip ⟨[], T, hp, by simpa using hT, by simpa using hS, h⟩
  | label l => intro b F β T hp a w K hT hS h; exact wp_label ⟨[], T, hp, by simpa using hT, by simpa using hS, h⟩
  | exit id => intro b F β T hp a w K hT hS h; exact wp_exit ⟨[], T, hp, by simpa using hT, by simpa using hS, h⟩
  | ret => intro b F β T hp a w K hT hS h; exact wp_ret ⟨[], T, hp, by simpa using hT, by simpa using hS, h⟩
  | region id ops draw =>
    intro b
    refine hL.reg id _ _ ?_
    intro F β T hp a w K hT hS h
    refine wp_mono (xRegion_sound (R := Post F β (K .normal)) hC hcall hT hS h fun _ _ h => h) fun e a w hq => ?_
    cases e <;> first | exact hq | exact hq.elim
  | seq x y ihx ihy =>
    intro b F β T hp a w K hT hS h
    refine wp_seq (wp_mono (ihx b F β T hp a w _ hT hS h) fun e a' w' hq => ?_)
    cases e with
    | normal =>
      obtain ⟨γ, T', hp', h1, h2, h3⟩ := hq
      exact wp_mono (ihy b F (β ++ γ) T' hp' a' w' K h1 h2 h3) fun _ _ _ h => h.later
    | exit id => exact hq
    | ret => exact hq
    | goto l => exact hq.elim
    | panic c => exact hq.elim
    | outgrown => exact hq.elim
  | cond c x y ihx ihy =>
    intro b F β T hp a w K hT hS h
    have hc := (hT.ev c).2.2
    simp only [xCode] at h
    split at h
    · rename_i t ht
      rw [ht] at hc
      refine wp_cond (t := t) hc ?_
      cases t
      · exact ihy b F β T hp a w K hT hS h
      · exact ihx b F β T hp a w K hT hS h
    · rename_i t ht
      rw [ht] at hc
      refine wp_cond (t := t) hc ?_
      cases t
      · exact ihy b F β T hp a w K hT hS (h.2 rfl)
      · exact ihx b F β T hp a w K hT hS (h.1 rfl)
    · exact h.elim
  | block id x ih =>
    intro b F β T hp a w K hT hS h
    refine wp_block (wp_mono (ih id F β T hp a w _ hT hS h) fun e a' w' hq => ?_)
    cases e with
    | normal => exact hq
    | exit j =>
      obtain ⟨γ, T', hp', h1, h2, h3⟩ := hq
      simp only at h3
      simp only [Exit.inBlock]
      cases hb : Nat.beq j id <;> rw [hb] at h3
      · rw [if_neg (beq_f hb)]
        exact ⟨γ, T', hp', h1, h2, h3⟩
      · rw [if_pos (beq_t hb)]
        exact ⟨γ, T', hp', h1, h2, h3⟩
    | ret => exact hq
    | goto l => exact hq.elim
    | panic c => exact hq.elim
    | outgrown => exact hq.elim
  | loop x ih => exact fun b => hL.loop b x _ (ih b)
  | _ => intro b F β T hp a w K hT hS h; exact h.elim

/-! ### Functions -/

/-- The results of a function. -/
def resAll (P : Program) (T : Tm) (hp : Hp) : List ResultVar → (List SV → Prop) → Prop
  | [], K => K []
  | .tmp t :: r, K => resAll P T hp r fun l => K (nth T t :: l)
  | .cell a ty :: r, K => xLoad P ty (nth T a) hp fun v => resAll P T hp r fun l => K (v :: l)
def rowOf : List SV → SV
  | [] => .nil
  | x :: r => .cons x (rowOf r)
def resVal : List SV → SV
  | [x] => x
  | l => .tup (rowOf l)

section
variable {P : Program} {F : Fr} {β : List Nat} {hp : Hp} {w : World}
theorem rowOf_ok : ∀ l : List SV, (∀ x ∈ l, x.one = true ∧ x.wf β.length) → (rowOf l).wf β.length ∧ (rowOf l).vals β = l.map (SV.val β)
  | [], _ => ⟨trivial, rfl⟩
  | x :: r, h => by
    obtain ⟨h1, h2⟩ := rowOf_ok r fun y hy => h y (List.mem_cons_of_mem _ hy)
    obtain ⟨g1, g2⟩ := h x List.mem_cons_self
    exact ⟨⟨g2, h1⟩, by simp [rowOf, SV.vals, SV.vals_one β g1, h2]⟩

def resOne (tmps : Array Value) : ResultVar → Sem Value
  | .tmp t => pure (tmps.getD t undef)
  | .cell a t => do loadVar t (← asAddr (tmps.getD a undef))

theorem resAll_sound (hS : Sat F β hp w) {T : Tm} {a : Act} (hT : TOk β T a) : ∀ (l : List ResultVar) (K : List SV → Prop), resAll P T hp l K →
    ∃ xs, K xs ∧ (∀ x ∈ xs, x.one = true ∧ x.wf β.length) ∧ (l.mapM (resOne a.tmps)).run P w = .ok (xs.map (SV.val β)) w
  | [], K, h => ⟨[], h, fun x hx => (by cases hx), rfl⟩
  | .tmp t :: r, K, h => by
    obtain ⟨xs, h1, h2, h3⟩ := resAll_sound hS hT r _ h
    obtain ⟨g1, g2, g3⟩ := hT.ev (.tmp t)
    refine ⟨_, h1, fun x hx => ?_, ?_⟩
    · rcases List.mem_cons.1 hx with rfl | hx
      · exact ⟨g1, g2⟩
      · exact h2 x hx
    · rw [List.mapM_cons]
      have hr : resOne a.tmps (.tmp t) = pure (a.eval (.tmp t)) := rfl
      rw [hr, g3]
      simp [h3, ev]
  | .cell b ty :: r, K, h => by
    obtain ⟨v, h1, h2, h3, h4⟩ := xLoad_sound hS h
    obtain ⟨xs, k1, k2, k3⟩ := resAll_sound hS hT r _ h1
    refine ⟨_, k1, fun x hx => ?_, ?_⟩
    · rcases List.mem_cons.1 hx with rfl | hx
      · exact ⟨h2, h3⟩
      · exact k2 x hx
    · rw [List.mapM_cons]
      have h5 := h4 w hS
      have h6 := (hT.ev (.tmp b)).2.2
      have hr : (resOne a.tmps (.cell b ty)).run P w = .ok (v.val β) w := by
        simp only [Act.eval, ev] at h6
        simp only [resOne, h6]
        simp only [resAll] at h
        unfold xLoad at h
        split at h
        · rename_i b' o hn
          rw [hn] at h5 ⊢
          exact h5
        · rename_i id off hn
          rw [hn] at h5 ⊢
          exact h5
        · exact h.elim
      simp [hr, k3]

def resV : List Value → Value
  | [x] => x
  | l => .tuple l.toArray
theorem run_results {fn : Func} {tmps : Array Value} {vs : List Value} (h : (fn.results.toList.mapM (resOne tmps)).run P w = .ok vs w) :
    (results fn tmps).run P w = .ok (resV vs) w := by
  unfold results
  rw [Array.mapM_eq_mapM_toList]
  show (do
    let vs ← List.toArray <$> fn.results.toList.mapM (resOne tmps)
    pure (if h : vs.size = 1 then vs[0] else .tuple vs) : Sem Value).run P w = _
  simp only [Sem.run_bind, Sem.run_map, h, Result.andThen_ok, Sem.run_pure]
  congr 1
  match vs with
  | [] => rfl
  | [x] => rfl
  | x :: y :: r => simp [resV]

theorem resVal_ok (xs : List SV) (h : ∀ x ∈ xs, x.one = true ∧ x.wf β.length) :
    (resVal xs).one = true ∧ (resVal xs).wf β.length ∧ resV (xs.map (SV.val β)) = (resVal xs).val β := by
  match xs with
  | [] => exact ⟨rfl, trivial, rfl⟩
  | [x] => exact ⟨(h x (by simp)).1, (h x (by simp)).2, rfl⟩
  | x :: y :: r =>
    obtain ⟨h1, h2⟩ := rowOf_ok (x :: y :: r) h
    refine ⟨rfl, h1, ?_⟩
    show _ = Value.tuple ((rowOf (x :: y :: r)).vals β).toArray
    rw [h2]
    rfl
end

/-- The temporaries at a function's beginning. -/
def argsT : Nat → List SV → List (Nat × SV)
  | _, [] => []
  | i, x :: r => (i, x) :: argsT (i + 1) r
def pad (args : List SV) (n : Nat) : Tm := ⟨max n args.length, argsT 0 args, fun _ => undef⟩
theorem look_argsT : ∀ (args : List SV) (i t : Nat), look (fun _ => undef) t (argsT i args) = if i ≤ t then (args[t - i]?).getD (.opq undef) else .opq undef
  | [], i, t => by simp [argsT, look]
  | x :: r, i, t => by
    simp only [argsT, look]
    by_cases h : i = t
    · subst h; rw [beq_self]; simp
    · rw [beq_ne h, cond_false, look_argsT r (i + 1) t]
      by_cases h2 : i ≤ t
      · rw [if_pos (by omega), if_pos h2]
        obtain ⟨k, rfl⟩ : ∃ k, t = i + 1 + k := ⟨t - (i + 1), by omega⟩
        rw [show i + 1 + k - (i + 1) = k by omega, show i + 1 + k - i = k + 1 by omega]
        rfl
      · rw [if_neg (by omega), if_neg h2]

/-- A function's symbolic twin: its body, on its arguments. -/
def xFun (C : Cfg) (call : Nat → SpecT) (L : Ways) (fn : Func) (c : Code) : SpecT := fun args hp K =>
  xCode C call L 0 c (pad args fn.ntmps) hp fun e T hp' => (match e with
    | .exit _ => False
    | _ => resAll C.P T hp' fn.results.toList fun l => K (resVal l) hp')

theorem xFun_sound {C : Cfg} (hC : CfgOk C) {call : Nat → SpecT} (hcall : CallOk C.P call) {L : Ways} (hL : WaysOk C.P L) {f : FuncId} {fn : Func} {c : Code} (hf : C.P.funcs[f]? = some fn) (hb : fn.body = some c)
    {args : List SV} {hp : Hp} {K : SV → Hp → Prop} (h : xFun C call L fn c args hp K) {F : Fr} {β : List Nat} {w : World} (hS : Sat F β hp w) (ha : ∀ x ∈ args, x.one = true ∧ x.wf β.length) :
    Calls C.P f (args.map (SV.val β)).toArray w (fun e w' => ∃ v, e = .returned v ∧ Yld F β K v w') := by
  refine calls_of_wp hf hb ?_
  have hT : TOk β (pad args fn.ntmps) { tmps := (args.map (SV.val β)).toArray ++ Array.replicate (fn.ntmps - (args.map (SV.val β)).toArray.size) undef, defers := [] } := by
    have hl : ∀ t, look (fun _ => undef) t (argsT 0 args) = (args[t]?).getD (.opq undef) := fun t => by rw [look_argsT]; simp
    refine ⟨?_, ?_, ?_, rfl⟩
    · simp [pad]; omega
    · intro t ht
      simp only [pad] at ht ⊢
      rw [hl]
      rcases Nat.lt_or_ge t args.length with h1 | h1
      · rw [Array.getElem?_append_left (by simpa using h1)]
        simp [h1]
      · have h2 : args[t]? = none := List.getElem?_eq_none h1
        rw [h2]
        simp [Array.getElem?_append, Array.getElem?_replicate, Nat.not_lt.2 h1]
        exact ⟨by omega, rfl⟩
    · intro t
      simp only [pad]
      rw [hl]
      cases hx : args[t]? with
      | none => exact ⟨rfl, trivial⟩
      | some x => exact ha x (List.mem_of_getElem? hx)
  refine wp_mono (xCode_ok hC hcall hL c 0 F β _ hp _ w _ hT hS h) fun e a w' hq => ?_
  have fin : Post F β (fun T hp' => resAll C.P T hp' fn.results.toList fun l => K (resVal l) hp') a w' → a.defers = [] ∧ ∃ v, (results fn a.tmps).run C.P w' = .ok v w' ∧ ∃ v', Ending.returned v = .returned v' ∧ Yld F β K v' w' := by
    rintro ⟨γ, T, hp', h1, h2, h3⟩
    obtain ⟨xs, k1, k2, k3⟩ := resAll_sound h2 h1 _ _ h3
    obtain ⟨r1, r2, r3⟩ := resVal_ok xs k2
    exact ⟨h1.defers, _, run_results k3, _, rfl, γ, _, hp', h2, r1, r2, r3, k1⟩
  cases e with
  | normal => exact fin hq
  | ret => exact fin hq
  | exit id =>
    obtain ⟨_, _, _, _, _, h3⟩ := hq
    exact h3.elim
  | goto l => exact hq.elim
  | panic c => exact hq.elim
  | outgrown => exact hq.elim

/-! ### Functions that are laid out where they are called -/

def noCall : Nat → SpecT := fun _ _ _ _ => False
def bodyOf (P : Program) (f : Nat) : Option (Func × Code) :=
  match P.funcs[f]? with
  | some fn => (match fn.body with
    | some c => some (fn, c)
    | none => none)
  | none => none
/-- Calls by their twins where there is one; the others are laid out, so deep. -/
def callD (C : Cfg) (call : Nat → SpecT) (L : Nat → Ways) (inl : Nat → Bool) : Nat → Nat → SpecT
  | 0, f => call f
  | d + 1, f => bif inl f then (match bodyOf C.P f with
      | some (fn, c) => xFun C (callD C call L inl d) (L f) fn c
      | none => fun _ _ _ => False)
    else call f

theorem callD_ok {C : Cfg} (hC : CfgOk C) {call : Nat → SpecT} (hcall : CallOk C.P call) {L : Nat → Ways} (hL : ∀ f, WaysOk C.P (L f)) {inl : Nat → Bool} (hi : ∀ f, inl f = true → ∀ vs w, (callFunc f vs).run C.P w = .ok (.enter f vs) w) :
    ∀ d, CallOk C.P (callD C call L inl d)
  | 0 => hcall
  | d + 1 => by
    intro f args hp K h
    simp only [callD] at h
    cases hf : inl f <;> rw [hf] at h
    · exact hcall f args hp K h
    · refine ⟨hi f hf, fun F β w hS ha => ?_⟩
      simp only [cond_true] at h
      cases hb : bodyOf C.P f with
      | none => rw [hb] at h; exact h.elim
      | some fc =>
        rw [hb] at h
        obtain ⟨fn, c⟩ := fc
        unfold bodyOf at hb
        split at hb
        · rename_i fn' hfn
          split at hb
          · rename_i c' hc'
            cases hb
            exact xFun_sound hC (callD_ok hC hcall hL hi d) (hL f) hfn hc' h hS ha
          · cases hb
        · cases hb
end Vx
