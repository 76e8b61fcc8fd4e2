/- What this text proves, part by part: A state held against a pattern: other names, and what has to be alike. What functions and loops do, said once: patterns of arguments, heaps and results. Functions and loops by what they do. A result's block that is told to stay as it is from then on: it is one of those that are only read. No condition is added. -/
import Derived.Test.YtafngdeeachggaaGreatParses01
import Derived.Test.YtafngdeeachggaaGreatParses02
import Derived.Test.YtafngdeeachggaaGreatParses03
set_option linter.unusedVariables false
set_option linter.unusedSimpArgs false
section
/- A state held against a pattern: other names, and what has to be alike. -/
namespace Vx
open Go

abbrev Nm := List (Nat × Nat)
def findN (i : Nat) : Nm → Option Nat
  | [] => none
  | (k, j) :: r => bif Nat.beq k i then some j else findN i r
def mId (m i j : Nat) (r : Nm) (K : Nm → Prop) : Prop :=
  match findN i r with
  | some j' => bif Nat.beq j' j then K r else False
  | none => bif Nat.blt i m then K ((i, j) :: r) else False

def catO {α : Type} (a : List α) (b : Option (List α)) : Option (List α) :=
  match b with
  | none => some a
  | some b => some (a ++ b)
/-- The integers that a row begins with; how many; what follows. -/
def takeI (k : IntKind) : SV → Option (List Int) × NE × SV
  | .cons h t => (match h with
    | .int k' x => bif decide (k' = k) then (match takeI k t with | (ys, n, t') => (catO [x.den] ys, addN (.lit 1) n, t')) else (none, .lit 0, .cons h t)
    | .run k' m xs => bif decide (k' = k) then (match takeI k t with | (ys, n, t') => (catO xs.den ys, addN m n, t')) else (none, .lit 0, .cons h t)
    | _ => (none, .lit 0, .cons h t))
  | x => (none, .lit 0, x)
/-- A value in which no block is named. -/
def flat : SV → Option Value
  | .int k x => some (.int k x.den)
  | .bool b => some (.bool b.den)
  | .str s => some (.string s.den)
  | .nilptr => some (.pointer none)
  | .nilslice => some (.slice none 0 0)
  | .nilmap => some (.map none)
  | .opq v => some v
  | .gsl a l c => some (.slice a l.den c.den)
  | .gptr b o => some (.pointer (some ⟨b, o, none⟩))
  | _ => none
def rowVals : SV → Option (Option (List Value))
  | .nil => some none
  | .cons h t => (match rowVals t with
    | none => none
    | some r => (match h with
      | .blob _ vs => some (catO vs r)
      | .run k _ xs => some (catO (xs.den.map (.int k)) r)
      | h => (match flat h with
        | some v => some (catO [v] r)
        | none => none)))
  | _ => none

def SV.isNil : SV → Bool
  | .nil => true
  | _ => false
theorem SV.isNil_sound : ∀ {x : SV}, x.isNil = true → x = .nil
  | .nil, _ => rfl
/-- A pattern and a value: the names, and what has to be alike. -/
def mV (m : Nat) : SV → SV → Nm → (Nm → Prop) → Prop
  | .ptr i o, .ptr j o', r, K => mId m i j r fun r => eqO o o' (K r)
  | .slice i o l c, .slice j o' l' c', r, K => mId m i j r fun r => eqO o o' (eqM l l' (eqM c c' (K r)))
  | .map i, .map j, r, K => mId m i j r K
  | .int k a, .int k' b, r, K => bif decide (k = k') then eqI a b (K r) else False
  | .bool a, .bool b, r, K => eqB a b (K r)
  | .str a, .str b, r, K => a.den = b.den ∧ K r
  | .nilptr, .nilptr, r, K => K r
  | .nilslice, .nilslice, r, K => K r
  | .nilmap, .nilmap, r, K => K r
  | .gsl a l c, b, r, K => (match b with
    | .gsl a' l' c' => a = a' ∧ eqM l l' (eqM c c' (K r))
    | .nilslice => a = none ∧ l.den = 0 ∧ c.den = 0 ∧ K r
    | _ => False)
  | .gptr b o, .gptr b' o', r, K => b = b' ∧ o = o' ∧ K r
  | .opq v, b, r, K => (match flat b with
    | some u => v = u ∧ K r
    | none => False)
  | .agg a, .agg b, r, K => mV m a b r K
  | .tup a, .tup b, r, K => mV m a b r K
  | .nil, .nil, r, K => K r
  | .cons p rest, b, r, K => (match p with
    | .run k n xs => (match takeI k b with
      | (ys, w, b') => xs.den = ys.getD [] ∧ n.den = w.den ∧ mV m rest b' r K)
    | .blob n vs => bif rest.isNil then (match rowVals b with
        | some o => bif b.cells then vs = o.getD [] ∧ n.den = b.widN.den ∧ K r else False
        | none => False)
      else (match cutBlob b with
        | some (p, w, ws) => (match rowVals p with
          | some o => bif p.cells then vs = o.getD [] ∧ n.den = p.widN.den ∧ mV m rest (.cons (.blob w ws) .nil) r K else False
          | none => False)
        | none => False)
    | _ => (match b with
      | .cons h t => mV m p h r fun r => mV m rest t r K
      | _ => False))
  | _, _, _, _ => False

section
variable {m : Nat} {β βp : List Nat}
def Le (r r' : Nm) : Prop := ∀ i j, findN i r = some j → findN i r' = some j
/-- The names stand for the same blocks. -/
def Agree (r : Nm) (βp β : List Nat) : Prop := ∀ i j, findN i r = some j → blk βp i = blk β j
def NmOk (m n : Nat) (r : Nm) : Prop := ∀ i j, findN i r = some j → i < m ∧ j < n
theorem Le.refl (r : Nm) : Le r r := fun _ _ h => h
theorem Le.trans {a b c : Nm} (h : Le a b) (h' : Le b c) : Le a c := fun i j hi => h' i j (h i j hi)
theorem Agree.le {r r' : Nm} (h : Le r r') (ha : Agree r' βp β) : Agree r βp β := fun i j hi => ha i j (h i j hi)

theorem mId_sound {i j : Nat} {r : Nm} {K : Nm → Prop} (h : mId m i j r K) : ∃ r', Le r r' ∧ K r' ∧ findN i r' = some j ∧ (∀ n, j < n → NmOk m n r → NmOk m n r') := by
  unfold mId at h
  split at h
  · rename_i j' hj
    cases hb : Nat.beq j' j <;> rw [hb] at h
    · exact h.elim
    · have := beq_t hb
      subst this
      exact ⟨r, Le.refl r, h, hj, fun n _ h => h⟩
  · rename_i hn
    cases hb : Nat.blt i m <;> rw [hb] at h
    · exact h.elim
    · refine ⟨_, fun i' j' h' => ?_, h, by simp [findN, beq_self], fun n hj hk i' j' h' => ?_⟩
      · by_cases he : i = i'
        · subst he; rw [hn] at h'; cases h'
        · simp [findN, beq_ne he, h']
      · by_cases he : i = i'
        · subst he; simp [findN, beq_self] at h'; subst h'; exact ⟨blt_t hb, hj⟩
        · simp [findN, beq_ne he] at h'; exact hk i' j' h'

theorem catO_getD {α : Type} (a : List α) (b : Option (List α)) : (catO a b).getD [] = a ++ b.getD [] := by
  cases b <;> simp [catO]
theorem takeI_sound (β : List Nat) (k : IntKind) : ∀ b : SV, b.vals β = ((takeI k b).1.getD []).map (.int k) ++ (takeI k b).2.2.vals β ∧
    (b.wf β.length → ((takeI k b).1.getD []).length = (takeI k b).2.1.den ∧ (takeI k b).2.2.wf β.length) := by
  intro b
  induction b with
  | cons h t _ ih =>
    have triv : ∀ h : SV, (SV.cons h t).vals β = (([] : List Int)).map (Value.int k) ++ (SV.cons h t).vals β ∧ ((SV.cons h t).wf β.length → ([] : List Int).length = (NE.lit 0).den ∧ (SV.cons h t).wf β.length) :=
      fun h => ⟨rfl, fun hw => ⟨rfl, hw⟩⟩
    simp only [takeI]
    cases h with
    | int k' x =>
      simp only
      cases hd : decide (k' = k)
      · exact triv _
      · have := of_decide_eq_true hd
        subst this
        simp only [cond_true]
        refine ⟨?_, fun hw => ?_⟩
        · rw [catO_getD]
          simp only [SV.vals, ih.1, List.map_append, List.append_assoc]
          rfl
        · obtain ⟨h1, h2⟩ := ih.2 hw.2
          rw [catO_getD, addN_den, NE_lit]
          exact ⟨by simp [h1, Nat.add_comm], h2⟩
    | run k' n xs =>
      simp only
      cases hd : decide (k' = k)
      · exact triv _
      · have := of_decide_eq_true hd
        subst this
        simp only [cond_true]
        refine ⟨?_, fun hw => ?_⟩
        · rw [catO_getD]
          simp only [SV.vals, ih.1, List.map_append, List.append_assoc]
        · obtain ⟨h1, h2⟩ := ih.2 hw.2
          have h3 : xs.den.length = n.den := hw.1
          rw [catO_getD, addN_den]
          exact ⟨by simp [h1, h3], h2⟩
    | _ => exact triv _
  | _ => exact ⟨rfl, fun hw => ⟨rfl, hw⟩⟩

theorem flat_sound (β : List Nat) {x : SV} {v : Value} (h : flat x = some v) : x.vals β = [v] := by
  cases x <;> simp only [flat, Option.some.injEq] at h <;> first | (subst h; rfl) | cases h
theorem rowVals_sound (β : List Nat) : ∀ (b : SV) (o : Option (List Value)), rowVals b = some o → b.vals β = o.getD [] := by
  intro b
  induction b with
  | nil => intro o h; cases h; rfl
  | cons x t _ ih =>
    intro o h
    simp only [rowVals] at h
    split at h
    · cases h
    · rename_i r hr
      have h2 := ih r hr
      split at h
      · cases h; rw [catO_getD]; simp [SV.vals, h2]
      · cases h; rw [catO_getD]; simp [SV.vals, h2]
      · split at h
        · rename_i v hv
          cases h; rw [catO_getD]; simp [SV.vals, h2, flat_sound β hv]
        · cases h
  | _ => intro o h; cases h
theorem widN_len : ∀ b : SV, b.wf β.length → b.widN.den = (b.vals β).length
  | .nil, _ => rfl
  | .cons h t, hw => by simp [SV.widN, addN_den, SV.vals, widN_len h hw.1, widN_len t hw.2]
  | .run _ n xs, hw => by simp only [SV.widN, SV.vals, List.length_map]; exact hw.symm
  | .blob n vs, hw => by simp only [SV.widN, SV.vals]; exact hw.1.symm
  | .int .., _ => rfl
  | .bool .., _ => rfl
  | .str .., _ => rfl
  | .nilptr, _ => rfl
  | .ptr .., _ => rfl
  | .nilslice, _ => rfl
  | .slice .., _ => rfl
  | .nilmap, _ => rfl
  | .map .., _ => rfl
  | .opq .., _ => rfl
  | .fn .., _ => rfl
  | .iface .., _ => rfl
  | .agg .., _ => rfl
  | .tup .., _ => rfl
  | .gsl .., _ => rfl
  | .gptr .., _ => rfl

/-- What a match says. -/
structure MV (m : Nat) (a b : SV) (r r' : Nm) : Prop where
  le : Le r r'
  ok : ∀ n, b.wf n → NmOk m n r → NmOk m n r'
  vals : ∀ β βp, Agree r' βp β → b.wf β.length → a.vals βp = b.vals β
  wf : ∀ n, b.wf n → NmOk m n r' → a.wf m
theorem MV.of {m : Nat} {a b : SV} {r : Nm} (h : ∀ β βp, a.vals βp = b.vals β) (hw : ∀ n, b.wf n → a.wf m) : MV m a b r r :=
  ⟨Le.refl r, fun _ _ h => h, fun β βp _ _ => h β βp, fun n hn _ => hw n hn⟩

theorem mV_sound (m : Nat) : ∀ (a b : SV) (r : Nm) (K : Nm → Prop), mV m a b r K → ∃ r', K r' ∧ MV m a b r r' := by
  intro a
  induction a with
  | ptr i o =>
    intro b r K h
    cases b <;> try exact h.elim
    obtain ⟨r', h1, h2, h3, h4⟩ := mId_sound (h : mId m i _ r _)
    obtain ⟨h5, h6⟩ := eqO_sound h2
    refine ⟨r', h6, h1, fun n hn => h4 n hn, fun β βp hA _ => ?_, fun n hn hok => (hok _ _ h3).1⟩
    simp [SV.vals, hA _ _ h3, h5]
  | slice i o l c =>
    intro b r K h
    cases b <;> try exact h.elim
    obtain ⟨r', h1, h2, h3, h4⟩ := mId_sound (h : mId m i _ r _)
    obtain ⟨h5, h6⟩ := eqO_sound h2
    obtain ⟨h7, h6⟩ := eqM_sound h6
    obtain ⟨h8, h6⟩ := eqM_sound h6
    refine ⟨r', h6, h1, fun n hn => h4 n hn, fun β βp hA _ => ?_, fun n hn hok => (hok _ _ h3).1⟩
    simp [SV.vals, hA _ _ h3, h5, h7, h8]
  | map i =>
    intro b r K h
    cases b <;> try exact h.elim
    obtain ⟨r', h1, h2, h3, h4⟩ := mId_sound (h : mId m i _ r _)
    refine ⟨r', h2, h1, fun n hn => h4 n hn, fun β βp hA _ => ?_, fun n hn hok => (hok _ _ h3).1⟩
    simp [SV.vals, hA _ _ h3]
  | int k x =>
    intro b r K h
    cases b <;> try exact h.elim
    simp only [mV] at h
    rename_i k' y
    cases hd : decide (k = k') <;> rw [hd] at h
    · exact h.elim
    · obtain ⟨h1, h2⟩ := eqI_sound h
      have := of_decide_eq_true hd
      exact ⟨r, h2, MV.of (fun β βp => by simp [SV.vals, h1, this]) fun _ _ => trivial⟩
  | bool x =>
    intro b r K h
    cases b <;> try exact h.elim
    obtain ⟨h1, h2⟩ := eqB_sound h
    exact ⟨r, h2, MV.of (fun β βp => by simp [SV.vals, h1]) fun _ _ => trivial⟩
  | str x =>
    intro b r K h
    cases b <;> try exact h.elim
    exact ⟨r, h.2, MV.of (fun β βp => by simp [SV.vals, h.1]) fun _ _ => trivial⟩
  | nilptr => intro b r K h; cases b <;> first | exact ⟨r, h, MV.of (fun _ _ => rfl) fun _ _ => trivial⟩ | exact h.elim
  | nilslice => intro b r K h; cases b <;> first | exact ⟨r, h, MV.of (fun _ _ => rfl) fun _ _ => trivial⟩ | exact h.elim
  | nilmap => intro b r K h; cases b <;> first | exact ⟨r, h, MV.of (fun _ _ => rfl) fun _ _ => trivial⟩ | exact h.elim
  | nil => intro b r K h; cases b <;> first | exact ⟨r, h, MV.of (fun _ _ => rfl) fun _ _ => trivial⟩ | exact h.elim
  | gsl x l c =>
    intro b r K h
    cases b <;> try exact h.elim
    · obtain ⟨h1, h2, h3, h4⟩ := h
      exact ⟨r, h4, MV.of (fun β βp => by simp [SV.vals, h1, h2, h3]) fun _ _ => trivial⟩
    · obtain ⟨h1, h⟩ := h
      obtain ⟨h2, h⟩ := eqM_sound h
      obtain ⟨h3, h⟩ := eqM_sound h
      exact ⟨r, h, MV.of (fun β βp => by simp [SV.vals, h1, h2, h3]) fun _ _ => trivial⟩
  | gptr x o =>
    intro b r K h
    cases b <;> try exact h.elim
    exact ⟨r, h.2.2, MV.of (fun β βp => by simp [SV.vals, h.1, h.2.1]) fun _ _ => trivial⟩
  | opq v =>
    intro b r K h
    have h : (match flat b with | some u => v = u ∧ K r | none => False) := h
    split at h
    · rename_i u hu
      exact ⟨r, h.2, MV.of (fun β βp => by rw [flat_sound β hu, h.1]; rfl) fun _ _ => trivial⟩
    · exact h.elim
  | agg x ih =>
    intro b r K h
    cases b <;> try exact h.elim
    obtain ⟨r', h1, h2⟩ := ih _ r K h
    exact ⟨r', h1, h2.le, h2.ok, fun β βp hA hw => by simp [SV.vals, h2.vals β βp hA hw], h2.wf⟩
  | tup x ih =>
    intro b r K h
    cases b <;> try exact h.elim
    obtain ⟨r', h1, h2⟩ := ih _ r K h
    exact ⟨r', h1, h2.le, h2.ok, fun β βp hA hw => by simp [SV.vals, h2.vals β βp hA hw], h2.wf⟩
  | cons p rest ihp ihr =>
    intro b r K h
    have step : ∀ x t, mV m p x r (fun r => mV m rest t r K) → ∃ r', K r' ∧ MV m (.cons p rest) (.cons x t) r r' := by
      intro x t h
      obtain ⟨r1, h1, h2⟩ := ihp x r _ h
      obtain ⟨r2, h3, h4⟩ := ihr t r1 K h1
      refine ⟨r2, h3, h2.le.trans h4.le, fun n hn hok => h4.ok n hn.2 (h2.ok n hn.1 hok), fun β βp hA hw => ?_, fun n hn hok => ⟨h2.wf n hn.1 fun i j hi => hok i j (h4.le i j hi), h4.wf n hn.2 hok⟩⟩
      simp [SV.vals, h2.vals β βp (Agree.le h4.le hA) hw.1, h4.vals β βp hA hw.2]
    cases p with
    | run k n xs =>
      simp only [mV] at h
      obtain ⟨h1, h2, h⟩ := h
      obtain ⟨r', h3, h4⟩ := ihr _ r K h
      refine ⟨r', h3, h4.le, fun n hn hok => h4.ok n ?_ hok, fun β βp hA hw => ?_, fun n hn hok => ?_⟩
      · have := (takeI_sound (List.replicate n 0) k b).2 (by simpa using hn)
        simpa using this.2
      · obtain ⟨g1, g2⟩ := takeI_sound β k b
        have g3 := g2 hw
        rw [g1]
        simp only [SV.vals, h1, h4.vals β βp hA g3.2]
      · have := (takeI_sound (List.replicate n 0) k b).2 (by simpa using hn)
        simp only [List.length_replicate] at this
        exact ⟨by show xs.den.length = _; rw [h1, h2]; exact this.1, h4.wf n this.2 hok⟩
    | blob n vs =>
      simp only [mV] at h
      cases hnil : rest.isNil <;> rw [hnil] at h
      · simp only [cond_false] at h
        split at h
        · rename_i p w ws hcb
          split at h
          · rename_i o ho
            cases hc : p.cells <;> rw [hc] at h
            · exact h.elim
            · obtain ⟨h1, h2, h3⟩ := h
              obtain ⟨r', h4, h5⟩ := ihr _ r K h3
              refine ⟨r', h4, h5.le, fun k hk hok => h5.ok k ?_ hok, fun β βp hA hw => ?_, fun k hk hok => ?_⟩
              · obtain ⟨b1, b2, b3, b4⟩ := cutBlob_sound (β := List.replicate k 0) b p w ws (by simpa using hk) hcb
                exact ⟨⟨b3, b4⟩, trivial⟩
              · obtain ⟨b1, b2, b3, b4⟩ := cutBlob_sound (β := β) b p w ws hw hcb
                have e1 := h5.vals β βp hA ⟨⟨b3, b4⟩, trivial⟩
                have e2 := rowVals_sound β p o ho
                simp only [SV.vals, List.append_nil] at e1 ⊢
                rw [e1, b1, e2, h1]
              · obtain ⟨b1, b2, b3, b4⟩ := cutBlob_sound (β := List.replicate k 0) b p w ws (by simpa using hk) hcb
                have e2 := rowVals_sound (List.replicate k 0) p o ho
                refine ⟨⟨?_, fun v hv' => ?_⟩, h5.wf k ⟨⟨b3, b4⟩, trivial⟩ hok⟩
                · rw [h2, widN_len p b2, e2, h1]
                · exact SV.cells_sound b2 hc v (by rw [e2, ← h1]; exact hv')
          · exact h.elim
        · exact h.elim
      · simp only [cond_true] at h
        have := SV.isNil_sound hnil
        subst this
        split at h
        · rename_i o ho
          cases hc : b.cells <;> rw [hc] at h
          · exact h.elim
          · obtain ⟨h1, h2, h3⟩ := h
            refine ⟨r, h3, Le.refl r, fun _ _ h => h, fun β βp _ hw => ?_, fun k hk _ => ?_⟩
            · rw [rowVals_sound β b o ho]; simp [SV.vals, h1]
            · have hk' : b.wf (List.replicate k 0).length := by simpa using hk
              have hv := rowVals_sound (List.replicate k 0) b o ho
              refine ⟨⟨?_, fun v hv' => ?_⟩, trivial⟩
              · rw [h2, widN_len b hk', hv, h1]
              · exact SV.cells_sound hk' hc v (by rw [hv, ← h1]; exact hv')
        · exact h.elim
    | _ =>
      cases b <;> first | exact step _ _ h | exact h.elim
  | _ => intro b r K h; exact h.elim
end
end Vx
end
section
/- What functions and loops do, said once: patterns of arguments, heaps and results. -/
namespace Vx
open Go

def mArgs (m : Nat) : List SV → List SV → Nm → (Nm → Prop) → Prop
  | [], [], r, K => K r
  | a :: as, b :: bs, r, K => bif a.one then mV m a b r fun r => mArgs m as bs r K else False
  | _, _, _, _ => False
def mObj (m : Nat) : SObj → SObj → Nm → (Nm → Prop) → Prop
  | .cells l e z, .cells l' e' z', r, K => bif Nat.beq e e' then (bif decide (z = z') then mV m l l' r K else False) else False
  | .other o, .other o', r, K => o = o' ∧ K r
  | _, _, _, _ => False
def mHeap (m : Nat) : List (Nat × SObj) → List (Nat × Option SObj) → Nm → (Nm → Prop) → Prop
  | [], _, r, K => K r
  | (i, o) :: l, H, r, K => (match findN i r with
    | some j => (match getH j H with
      | some o' => mObj m o o' r fun r => mHeap m l H r K
      | none => False)
    | none => False)
def Sub (G G' : Nat → Option Obj) : Prop := ∀ b o, G b = some o → G' b = some o
theorem Sub.refl (G : Nat → Option Obj) : Sub G G := fun _ _ h => h
theorem Sub.trans {A B C : Nat → Option Obj} (h : Sub A B) (h' : Sub B C) : Sub A C := fun b o hb => h' b o (h b o hb)

def injB (r : Nm) : Bool := r.all fun p => r.all fun q => bif Nat.beq p.2 q.2 then Nat.beq p.1 q.1 else true
def heapOf : List (Nat × SObj) → List (Nat × Option SObj)
  | [] => []
  | (i, o) :: l => (i, some o) :: heapOf l
/-- Arguments and a heap against a pattern. -/
def mState (m : Nat) (ps as : List SV) (hs : List (Nat × SObj)) (G : Nat → Option Obj) (hp : Hp) (r : Nm) (K : Nm → Prop) : Prop :=
  mArgs m ps as r fun r => mHeap m hs hp.H r fun r => bif injB r then Sub G hp.G ∧ K r else False

theorem mem_heapOf {i : Nat} {o : SObj} : ∀ {l : List (Nat × SObj)}, getH i (heapOf l) = some o → (i, o) ∈ l
  | [], h => (by cases h)
  | (j, x) :: l, h => by
    simp only [heapOf, getH] at h
    cases hb : Nat.beq j i <;> rw [hb] at h
    · exact List.mem_cons_of_mem _ (mem_heapOf h)
    · have := beq_t hb
      subst this
      cases h
      exact List.mem_cons_self
theorem findN_mem {i j : Nat} : ∀ {r : Nm}, findN i r = some j → (i, j) ∈ r
  | [], h => (by cases h)
  | (k, x) :: r, h => by
    simp only [findN] at h
    cases hb : Nat.beq k i <;> rw [hb] at h
    · exact List.mem_cons_of_mem _ (findN_mem h)
    · have := beq_t hb
      subst this
      cases h
      exact List.mem_cons_self
theorem injB_sound {r : Nm} (h : injB r = true) {i i' j : Nat} (h1 : findN i r = some j) (h2 : findN i' r = some j) : i = i' := by
  simp only [injB, List.all_eq_true] at h
  have := h _ (findN_mem h1) _ (findN_mem h2)
  simp only [beq_self, cond_true] at this
  exact beq_t this

section
variable {m : Nat}
theorem mArgs_sound : ∀ (ps as : List SV) (r : Nm) (K : Nm → Prop), mArgs m ps as r K → ∃ r', K r' ∧ Le r r' ∧ (∀ n, (∀ b ∈ as, b.wf n) → NmOk m n r → NmOk m n r') ∧
    (∀ β βp, Agree r' βp β → (∀ b ∈ as, b.wf β.length) → ps.map (SV.val βp) = as.map (SV.val β)) ∧ (∀ n, (∀ b ∈ as, b.wf n) → NmOk m n r' → ∀ a ∈ ps, a.one = true ∧ a.wf m)
  | [], [], r, K, h => ⟨r, h, Le.refl r, fun _ _ h => h, fun _ _ _ _ => rfl, fun _ _ _ a ha => (by cases ha)⟩
  | a :: as, b :: bs, r, K, h => by
    simp only [mArgs] at h
    cases ho : a.one <;> rw [ho] at h
    · exact h.elim
    · obtain ⟨r1, h1, h2⟩ := mV_sound m a b r _ h
      obtain ⟨r2, g1, g2, g3, g4, g5⟩ := mArgs_sound as bs r1 K h1
      refine ⟨r2, g1, h2.le.trans g2, fun n hn hok => g3 n (fun b hb => hn b (List.mem_cons_of_mem _ hb)) (h2.ok n (hn b List.mem_cons_self) hok), fun β βp hA hw => ?_, fun n hn hok x hx => ?_⟩
      · have h3 := h2.vals β βp (Agree.le g2 hA) (hw b List.mem_cons_self)
        have h4 := g4 β βp hA fun b hb => hw b (List.mem_cons_of_mem _ hb)
        simp [SV.val, h3, h4]
      · rcases List.mem_cons.1 hx with rfl | hx
        · exact ⟨ho, h2.wf n (hn b List.mem_cons_self) fun i j hi => hok i j (g2 i j hi)⟩
        · exact g5 n (fun b hb => hn b (List.mem_cons_of_mem _ hb)) hok x hx
  | [], _ :: _, _, _, h => h.elim
  | _ :: _, [], _, _, h => h.elim

theorem mObj_sound (o o' : SObj) (r : Nm) (K : Nm → Prop) (h : mObj m o o' r K) : ∃ r', K r' ∧ Le r r' ∧ (∀ n, o'.wf n → NmOk m n r → NmOk m n r') ∧
    (∀ β βp, Agree r' βp β → o'.wf β.length → o.den βp = o'.den β) ∧ (∀ n, o'.wf n → NmOk m n r' → o.wf m) := by
  unfold mObj at h
  split at h
  · rename_i l e z l' e' z'
    cases hb : Nat.beq e e' <;> rw [hb] at h
    · exact h.elim
    · cases hd : decide (z = z') <;> rw [hd] at h
      · exact h.elim
      · have := beq_t hb
        subst this
        have := of_decide_eq_true hd
        subst this
        obtain ⟨r1, h1, h2⟩ := mV_sound m l l' r _ h
        exact ⟨r1, h1, h2.le, h2.ok, fun β βp hA hw => by simp only [SObj.den, h2.vals β βp hA hw], h2.wf⟩
  · obtain ⟨rfl, h⟩ := h
    exact ⟨r, h, Le.refl r, fun _ _ h => h, fun _ _ _ _ => rfl, fun _ _ _ => trivial⟩
  · exact h.elim

theorem mHeap_sound : ∀ (l : List (Nat × SObj)) (H : List (Nat × Option SObj)) (r : Nm) (K : Nm → Prop), mHeap m l H r K → ∃ r', K r' ∧ Le r r' ∧
    (∀ n, (∀ j o, getH j H = some o → o.wf n) → NmOk m n r → NmOk m n r') ∧
    (∀ e ∈ l, ∃ j o', findN e.1 r' = some j ∧ getH j H = some o' ∧ (∀ β βp, Agree r' βp β → o'.wf β.length → e.2.den βp = o'.den β) ∧ (∀ n, o'.wf n → NmOk m n r' → e.2.wf m))
  | [], H, r, K, h => ⟨r, h, Le.refl r, fun _ _ h => h, fun e he => (by cases he)⟩
  | (i, o) :: l, H, r, K, h => by
    simp only [mHeap] at h
    split at h
    · rename_i j hj
      split at h
      · rename_i o' ho
        obtain ⟨r1, h1, h2, h3, h4, h5⟩ := mObj_sound o o' r _ h
        obtain ⟨r2, g1, g2, g3, g4⟩ := mHeap_sound l H r1 K h1
        refine ⟨r2, g1, h2.trans g2, fun n hn hok => g3 n hn (h3 n (hn j o' ho) hok), fun e he => ?_⟩
        rcases List.mem_cons.1 he with rfl | he
        · exact ⟨j, o', g2 _ _ (h2 _ _ hj), ho, fun β βp hA => h4 β βp (Agree.le g2 hA), fun n hn hok => h5 n hn fun i j hi => hok i j (g2 i j hi)⟩
        · exact g4 e he
      · exact h.elim
    · exact h.elim

/-- The blocks behind the names of a pattern. -/
def namesOf (m : Nat) (r : Nm) (β : List Nat) : List Nat := (List.range m).map fun i => match findN i r with
  | some j => blk β j
  | none => 0
theorem namesOf_length (m : Nat) (r : Nm) (β : List Nat) : (namesOf m r β).length = m := by simp [namesOf]
theorem namesOf_blk {r : Nm} {β : List Nat} {i j : Nat} (hi : i < m) (h : findN i r = some j) : blk (namesOf m r β) i = blk β j := by
  simp [blk, namesOf, hi, h]
theorem namesOf_agree {r : Nm} {β : List Nat} {n : Nat} (hok : NmOk m n r) : Agree r (namesOf m r β) β := fun i j h => namesOf_blk (hok i j h).1 h

def fpOf (hs : List (Nat × SObj)) (r : Nm) : List Nat := hs.map fun e => (findN e.1 r).getD 0

/-- What a match of a state says. -/
theorem mState_sound {F : Fr} {β : List Nat} {hp : Hp} {w : World} (hS : Sat F β hp w) {ps as : List SV} {hs : List (Nat × SObj)} {G : Nat → Option Obj} {r : Nm} {K : Nm → Prop}
    (h : mState m ps as hs G hp r K) (hr : NmOk m β.length r) (hw : ∀ b ∈ as, b.wf β.length) :
    ∃ r', K r' ∧ Le r r' ∧ NmOk m β.length r' ∧ injB r' = true ∧ ps.map (SV.val (namesOf m r' β)) = as.map (SV.val β) ∧ (∀ a ∈ ps, a.one = true ∧ a.wf m) ∧
      Sat (F.off β hp (fpOf hs r') w) (namesOf m r' β) ⟨m, heapOf hs, [], G⟩ w := by
  obtain ⟨r1, h1, h2, h3, h4, h5⟩ := mArgs_sound ps as r _ h
  obtain ⟨r2, g1, g2, g3, g4⟩ := mHeap_sound hs hp.H r1 _ h1
  cases hi : injB r2 <;> rw [hi] at g1
  · exact g1.elim
  · obtain ⟨hsub, hK⟩ := g1
    have hok1 := h3 _ hw hr
    have hok2 := g3 β.length (fun j o ho => (hS.own j o ho).2.1) hok1
    have hA := namesOf_agree (β := β) hok2
    refine ⟨r2, hK, h2.trans g2, hok2, hi, h4 β _ (Agree.le g2 hA) hw, h5 _ hw hok1, ?_⟩
    have := Sat.part (fp := fpOf hs r2) (βp := namesOf m r2 β) (Hp0 := heapOf hs) (Gp := G) hS hsub (fun i => (findN i r2).getD 0) ?_ ?_
    · rwa [namesOf_length] at this
    · intro i o ho
      have hm := mem_heapOf ho
      obtain ⟨j, o', e1, e2, e3, e4⟩ := g4 (i, o) hm
      have hwo := (hS.own j o' e2).2.1
      rw [namesOf_length]
      refine ⟨(hok2 _ _ e1).1, e4 _ hwo hok2, List.mem_map.2 ⟨(i, o), hm, rfl⟩, o', ?_, ?_, e3 β _ hA hwo⟩
      · simp only [e1, Option.getD_some]; exact e2
      · simp only [e1, Option.getD_some]; exact hA _ _ e1
    · intro i o i' o' ho ho' hne
      obtain ⟨j, _, e1, _⟩ := g4 (i, o) (mem_heapOf ho)
      obtain ⟨j', _, e1', _⟩ := g4 (i', o') (mem_heapOf ho')
      simp only [e1, e1', Option.getD_some]
      intro e
      subst e
      exact hne (injB_sound hi e1 e1')

theorem Sat.unoff {F : Fr} {β : List Nat} {hp : Hp} {w : World} {fp : List Nat} (hS : Sat F β hp w) {βq : List Nat} {q : Hp} {w' : World} (h : Sat (F.off β hp fp w) βq q w') : Sat F βq q w' := by
  have hF : ∀ b o, F.h b = some o → (F.off β hp fp w).h b = some o := fun b o hb => by
    rcases off_cases (fp := fp) hS (b := b) with ⟨j, oj, hj, hoj, hb', hno⟩ | he
    · exact absurd (.inl hb) (hno o)
    · rw [he]; exact hb
  refine ⟨h.n, h.outer, fun b o hb => h.ext b o (hb.imp (hF b o) id), fun i o ho => ?_, h.apart, h.ro, fun b o hb => ?_⟩
  · obtain ⟨g1, g2, g3, g4⟩ := h.own i o ho
    exact ⟨g1, g2, fun x hx => g3 x (hx.imp (hF _ x) id), g4⟩
  · have h1 := h.disj b o hb
    cases hF' : F.h b with
    | none => rfl
    | some x => rw [hF b x hF'] at h1; cases h1

/-- The real names: what a pattern's first ones stand for; new ones behind all others. -/
def real (f n : Nat) (r : Nm) (i : Nat) : Nat := bif Nat.blt i f then (findN i r).getD 0 else n + (i - f)
def allN (f : Nat) (r : Nm) : Bool := (List.range f).all fun i => (findN i r).isSome
theorem real_means {f : Nat} {r : Nm} {β δ : List Nat} (hf : f ≤ δ.length) (hall : allN f r = true) (hok : NmOk m β.length r) (hA : ∀ i j, i < f → findN i r = some j → blk δ i = blk β j) :
    Means (real f β.length r) δ (β ++ δ.drop f) := by
  intro i hi
  unfold real
  by_cases h : i < f
  · rw [blt_of h, cond_true]
    have := (List.all_eq_true.1 hall) i (List.mem_range.2 h)
    cases hj : findN i r with
    | none => rw [hj] at this; cases this
    | some j =>
      have h2 := (hok i j hj).2
      simp only [Option.getD_some]
      refine ⟨by simp; omega, ?_⟩
      rw [blk_append h2, hA i j h hj]
  · rw [blt_not (by omega), cond_false]
    refine ⟨by simp; omega, ?_⟩
    unfold blk
    rw [List.getElem?_append_right (by omega), show β.length + (i - f) - β.length = i - f by omega, List.getElem?_drop, show f + (i - f) = i by omega]
end
end Vx
end
section
/- Functions and loops by what they do. -/
namespace Vx
open Go

/-- What a function does: for each x with 'pre', of arguments and a heap of this pattern, some y with 'post' and a result and a heap of that one. Names below n are the arguments'; from n to m - 1 they are new. -/
structure Con where
  X : Type
  n : Nat
  args : X → List SV
  heap : X → List (Nat × SObj)
  G : X → Nat → Option Obj
  pre : X → Prop
  Y : Type
  m : Nat
  post : X → Y → Prop
  res : X → Y → SV
  heap' : X → Y → List (Nat × SObj)
  G' : X → Y → Nat → Option Obj

def idN : Nat → Nm
  | 0 => []
  | n + 1 => (n, n) :: idN n
/-- How a call of it is followed. -/
def Con.spec (S : Con) : SpecT := fun args hp K => ∃ x : S.X, mState S.n (S.args x) args (S.heap x) (S.G x) hp [] fun r =>
  bif allN S.n r && Nat.ble S.n S.m then S.pre x ∧ ∀ y : S.Y, S.post x y →
    K ((S.res x y).ren (real S.n hp.n r)) ⟨hp.n + (S.m - S.n), renH (real S.n hp.n r) (heapOf (S.heap' x y)) ++ goneH (fpOf (S.heap x) r) hp.H, [], S.G' x y⟩
  else False
/-- What has to be shown of its text. -/
def Con.Vc (S : Con) (twin : SpecT) : Prop := ∀ x : S.X, S.pre x →
  twin (S.args x) ⟨S.n, heapOf (S.heap x), [], S.G x⟩ fun v hp' => ∃ y : S.Y, S.post x y ∧ mState S.m [S.res x y] [v] (S.heap' x y) (S.G' x y) hp' (idN S.n) fun r => bif allN S.m r then True else False

theorem callOk_of {P : Program} {call : Nat → SpecT} (h : ∀ f, SpecOk P f (call f)) : CallOk P call := fun f => .inl (h f)
def noSpec : SpecT := fun _ _ _ => False
theorem noSpec_ok (P : Program) (f : Nat) : SpecOk P f noSpec := fun _ _ _ h => h.elim

theorem findN_idN {n i j : Nat} : findN i (idN n) = some j → i = j ∧ i < n := by
  induction n with
  | zero => intro h; cases h
  | succ n ih =>
    intro h
    simp only [idN, findN] at h
    cases hb : Nat.beq n i <;> rw [hb] at h
    · obtain ⟨h1, h2⟩ := ih h
      exact ⟨h1, by omega⟩
    · have := beq_t hb
      cases h
      exact ⟨this.symm, by omega⟩
theorem idN_find {n i : Nat} (h : i < n) : findN i (idN n) = some i := by
  induction n with
  | zero => omega
  | succ n ih =>
    simp only [idN, findN]
    by_cases he : n = i
    · subst he; rw [beq_self]; rfl
    · rw [beq_ne he]; exact ih (by omega)
theorem idN_ok (n m k : Nat) (hm : n ≤ m) (hk : n ≤ k) : NmOk m k (idN n) := fun i j h => by
  obtain ⟨rfl, h2⟩ := findN_idN h
  exact ⟨by omega, by omega⟩

section
variable {P : Program}
/-- A function that does what is said. -/
theorem Con.sound {S : Con} {f : Nat} {twin : SpecT} (ht : SpecOk P f twin) (hv : S.Vc twin) : SpecOk P f S.spec := by
  intro args hp K h
  obtain ⟨x, h⟩ := h
  refine ⟨?_, fun F β w hS ha => ?_⟩
  · -- what the call enters does not hang on the arguments
    have : S.pre x := by
      obtain ⟨r1, h1, _⟩ := mArgs_sound _ _ _ _ h
      obtain ⟨r2, h2, _⟩ := mHeap_sound _ _ _ _ h1
      cases hi : injB r2 <;> rw [hi] at h2
      · exact h2.elim
      · have h3 : (bif (allN S.n r2 && Nat.ble S.n S.m) then _ else False) := h2.2
        cases hb : (allN S.n r2 && Nat.ble S.n S.m) <;> rw [hb] at h3
        · exact h3.elim
        · exact h3.1
    exact (ht _ _ _ (hv x this)).1
  · have hw : ∀ b ∈ args, b.wf β.length := fun b hb => (ha b hb).2
    obtain ⟨r, h1, _, hok, _, hargs, hone, hSc⟩ := mState_sound hS h (fun i j h => (by cases h)) hw
    cases hb : (allN S.n r && Nat.ble S.n S.m) <;> rw [hb] at h1
    · exact h1.elim
    · simp only [Bool.and_eq_true] at hb
      obtain ⟨hall, hnm⟩ := hb
      have hnm := Nat.le_of_ble_eq_true hnm
      obtain ⟨hpre, hK⟩ := h1
      have hcall := (ht _ _ _ (hv x hpre)).2 (F.off β hp (fpOf (S.heap x) r) w) (namesOf S.n r β) w hSc (by rw [namesOf_length]; exact hone)
      rw [hargs] at hcall
      refine hcall.mono ?_
      rintro e w' ⟨v, rfl, γ, sv, hp', k1, k2, k3, rfl, y, hpost, k5⟩
      refine ⟨_, rfl, ?_⟩
      -- the result, in the names of the pattern
      have hlen : S.n ≤ (namesOf S.n r β ++ γ).length := by simp [namesOf_length]
      obtain ⟨r', c1, c2, c3, _, c5, c6, c7⟩ := mState_sound k1 k5 (idN_ok _ _ _ hnm hlen) (fun b hb => by rw [List.mem_singleton.1 hb]; exact k3)
      have hall' : allN S.m r' = true := by
        cases hb : allN S.m r' <;> rw [hb] at c1
        exact c1.elim
      have c7 := Sat.unoff k1 c7
      have hm := real_means (f := S.n) (r := r) (β := β) (δ := namesOf S.m r' (namesOf S.n r β ++ γ)) (by rw [namesOf_length]; exact hnm) hall hok fun i j hi hj => by
        rw [namesOf_blk (by omega) (c2 i i (idN_find hi)), blk_append (by rw [namesOf_length]; exact hi), namesOf_blk hi hj]
      have hn := hS.n
      have hback := Sat.back hS c7 hm (n := hp.n + (S.m - S.n)) (by simp [namesOf_length, hn])
      rw [← hn] at hback hm
      have hres := hone
      obtain ⟨q1, q2⟩ := c6 (S.res x y) (List.mem_singleton.2 rfl)
      have q2' : (S.res x y).wf (namesOf S.m r' (namesOf S.n r β ++ γ)).length := by rw [namesOf_length]; exact q2
      obtain ⟨p1, p2⟩ := SV.ren_vals hm (S.res x y) q2'
      refine ⟨_, _, _, hback, by rw [SV.ren_one]; exact q1, p2, ?_, hK y hpost⟩
      have c5' : (S.res x y).val (namesOf S.m r' (namesOf S.n r β ++ γ)) = sv.val (namesOf S.n r β ++ γ) := by simpa using c5
      rw [← c5']
      simp [SV.val, p1]

/-! ### Loops -/

/-- A loop: at its head, for some x with 'inv', these temporaries and this heap; the names below f never change what they stand for. -/
structure LoopS where
  X : Type
  f : Nat
  m : Nat
  tmps : X → List (Nat × SV)
  heap : X → List (Nat × SObj)
  G : X → Nat → Option Obj
  inv : X → Prop
  mea : X → Nat

def tmpIds : List (Nat × SV) → List Nat
  | [] => []
  | (t, _) :: l => t :: tmpIds l
def tmpVals : List (Nat × SV) → List SV
  | [] => []
  | (_, x) :: l => x :: tmpVals l
/-- The temporaries of a pattern, as they are now. -/
def nthL (T : Tm) : List (Nat × SV) → List SV
  | [] => []
  | (t, _) :: l => nth T t :: nthL T l
def mHead (S : LoopS) (x : S.X) (T : Tm) (hp : Hp) (r : Nm) (K : Nm → Prop) : Prop :=
  mState S.m (tmpVals (S.tmps x)) (nthL T (S.tmps x)) (S.heap x) (S.G x) hp r fun r => bif allN S.m r then K r else False

def backHp (S : LoopS) (x0 : S.X) (hp : Hp) (r : Nm) (hp' : Hp) : Hp :=
  ⟨hp.n + (hp'.n - S.f), renH (real S.f hp.n r) hp'.H ++ goneH (fpOf (S.heap x0) r) hp.H, [], hp'.G⟩
def LoopS.twin (S : LoopS) : LoopT := fun bx T hp K => ∃ x0 : S.X, mHead S x0 T hp [] fun r =>
  bif Nat.ble S.f S.m then S.inv x0 ∧ ∀ x : S.X, S.inv x → ∀ d : Nat → Value, bx ⟨T.n, S.tmps x, d⟩ ⟨S.m, heapOf (S.heap x), [], S.G x⟩ fun e T' hp' => (match e with
    | .normal => bif Nat.beq T'.n T.n then ∃ x' : S.X, S.inv x' ∧ S.mea x' < S.mea x ∧ mHead S x' T' hp' (idN S.f) (fun _ => True) else False
    | e => K e (renT (real S.f hp.n r) T') (backHp S x0 hp r hp'))
  else False

theorem nthL_mem {T : Tm} : ∀ {l : List (Nat × SV)} {b : SV}, b ∈ nthL T l → ∃ t, b = nth T t
  | (t, _) :: l, b, h => by
    rcases List.mem_cons.1 h with rfl | h
    · exact ⟨t, rfl⟩
    · exact nthL_mem h
/-- The temporaries at a loop's head. -/
theorem tok_head {β : List Nat} {T : Tm} {a : Act} {β' : List Nat} (hT : TOk β T a) : ∀ (l : List (Nat × SV)), (∀ x ∈ tmpVals l, x.one = true ∧ x.wf β'.length) →
    (tmpVals l).map (SV.val β') = (nthL T l).map (SV.val β) → TOk β' ⟨T.n, l, fun t => a.tmps.getD t undef⟩ a := by
  intro l h1 h2
  have key : ∀ (l : List (Nat × SV)), (∀ x ∈ tmpVals l, x.one = true ∧ x.wf β'.length) → (tmpVals l).map (SV.val β') = (nthL T l).map (SV.val β) →
      ∀ t, (look (fun t => a.tmps.getD t undef) t l).one = true ∧ (look (fun t => a.tmps.getD t undef) t l).wf β'.length ∧ (t < T.n → a.tmps[t]? = some ((look (fun t => a.tmps.getD t undef) t l).val β')) := by
    intro l
    induction l with
    | nil =>
      intro _ _ t
      refine ⟨rfl, trivial, fun ht => ?_⟩
      have hlt : t < a.tmps.size := by rw [hT.size]; exact ht
      simp [look, SV.val, SV.vals, hlt]
    | cons e l ih =>
      obtain ⟨j, x⟩ := e
      intro h1 h2 t
      simp only [tmpVals, nthL, List.map_cons, List.cons.injEq] at h2
      have ih := ih (fun y hy => h1 y (List.mem_cons_of_mem _ hy)) h2.2 t
      simp only [look]
      by_cases hj : j = t
      · subst hj
        rw [beq_self, cond_true]
        obtain ⟨g1, g2⟩ := h1 x List.mem_cons_self
        refine ⟨g1, g2, fun ht => ?_⟩
        have h3 := h2.1
        rw [h3]
        unfold nth
        rw [blt_of ht, cond_true]
        exact hT.tmps j ht
      · rw [beq_ne hj, cond_false]
        exact ih
  exact ⟨hT.size, fun t ht => (key l h1 h2 t).2.2 ht, fun t => ⟨(key l h1 h2 t).1, (key l h1 h2 t).2.1⟩, hT.defers⟩

theorem nth_ok {β : List Nat} {T : Tm} {a : Act} (h : TOk β T a) (t : Nat) : (nth T t).wf β.length := by
  unfold nth
  cases Nat.blt t T.n
  · trivial
  · exact (h.ok t).2

/-- A way to go round that comes to an end. -/
def LoopR (P : Program) (L : LoopT) : Prop := ∀ c bx, BodyOk P c bx → ∀ (F : Fr) (β : List Nat) (T : Tm) (hp : Hp) (a : Act) (w : World) (K : KT), TOk β T a → Sat F β hp w → L bx T hp K → ∃ n, Code.rounds P c (QK F β K) n a w
theorem LoopR.ok {P : Program} {L : LoopT} (h : LoopR P L) : LoopOk P L := fun c bx hb F β T hp a w K hT hS hL =>
  let ⟨n, hn⟩ := h c bx hb F β T hp a w K hT hS hL
  wp_loop_rounds n hn
/-- One round, then such an end. -/
theorem wp_loop_first {Q : Exit → Act → World → Prop} {a : Act} {w : World} {c : Code} (h : c.wp P (Exit.then (fun a w => ∃ n, Code.rounds P c Q n a w) Q) a w) : (Code.loop c).wp P Q a w := by
  intro b k cs
  have rest : ∀ n a w, Code.rounds P c Q n a w → ∃ e a' w', Q e a' w' ∧ Arrives P (lone (b.at a (.code c :: .inLoop c :: k)) cs w) b k cs e a' w' := by
    intro n
    induction n with
    | zero => intro a w h; exact h.elim
    | succ n ih =>
      intro a w h
      obtain ⟨e, a₁, w₁, hq, harr⟩ := h b (.inLoop c :: k) cs
      cases e with
      | normal =>
        obtain ⟨e₂, a₂, w₂, hq₂, harr₂⟩ := ih a₁ w₁ hq
        exact ⟨e₂, a₂, w₂, hq₂, .of_steps (Steps.trans harr (.one step_inLoop)) harr₂⟩
      | exit id => exact ⟨_, a₁, w₁, hq, .pass (x := .inLoop c) rfl (fun _ _ => .inl (by simp)) harr⟩
      | goto l => exact ⟨_, a₁, w₁, hq, .pass (x := .inLoop c) rfl (fun _ _ => .inl (by simp)) harr⟩
      | ret => exact ⟨_, a₁, w₁, hq, .pass (x := .inLoop c) rfl (fun _ _ => .inl (by simp)) harr⟩
      | panic ch => exact ⟨_, a₁, w₁, hq, .pass (x := .inLoop c) rfl (fun _ _ => .inl (by simp)) harr⟩
      | outgrown => exact ⟨_, a₁, w₁, hq, .pass (x := .inLoop c) rfl (fun _ _ => .inl (by simp)) harr⟩
  obtain ⟨e, a₁, w₁, hq, harr⟩ := h b (.inLoop c :: k) cs
  cases e with
  | normal =>
    obtain ⟨n, hn⟩ := hq
    obtain ⟨e₂, a₂, w₂, hq₂, harr₂⟩ := rest n a₁ w₁ hn
    exact ⟨e₂, a₂, w₂, hq₂, .of_steps (.one step_loop) (.of_steps (Steps.trans harr (.one step_inLoop)) harr₂)⟩
  | exit id => exact ⟨_, a₁, w₁, hq, .of_steps (.one step_loop) (.pass (x := .inLoop c) rfl (fun _ _ => .inl (by simp)) harr)⟩
  | goto l => exact ⟨_, a₁, w₁, hq, .of_steps (.one step_loop) (.pass (x := .inLoop c) rfl (fun _ _ => .inl (by simp)) harr)⟩
  | ret => exact ⟨_, a₁, w₁, hq, .of_steps (.one step_loop) (.pass (x := .inLoop c) rfl (fun _ _ => .inl (by simp)) harr)⟩
  | panic ch => exact ⟨_, a₁, w₁, hq, .of_steps (.one step_loop) (.pass (x := .inLoop c) rfl (fun _ _ => .inl (by simp)) harr)⟩
  | outgrown => exact ⟨_, a₁, w₁, hq, .of_steps (.one step_loop) (.pass (x := .inLoop c) rfl (fun _ _ => .inl (by simp)) harr)⟩

theorem rounds_later {F : Fr} {β γ : List Nat} {K : KT} {c : Code} : ∀ (n : Nat) (a : Act) (w : World), Code.rounds P c (QK F (β ++ γ) K) n a w → Code.rounds P c (QK F β K) n a w
  | 0, _, _, h => h
  | n + 1, a, w, h => wp_mono (h : c.wp P (Exit.then (Code.rounds P c (QK F (β ++ γ) K) n) (QK F (β ++ γ) K)) a w) fun e a' w' hq => by
    cases e with
    | normal => exact rounds_later n a' w' hq
    | exit id => exact QK.later (e := .exit id) hq
    | ret => exact QK.later (e := .ret) hq
    | goto l => exact hq
    | panic c => exact hq
    | outgrown => exact hq

/-- The first round alone, then the rest. -/
def peel (L : LoopT) : LoopT := fun bx T hp K => bx T hp fun e T' hp' => (match e with
  | .normal => L bx T' hp' K
  | e => K e T' hp')
theorem peel_ok {L : LoopT} (hL : LoopR P L) : LoopOk P (peel L) := by
  intro c bx hb F β T hp a w K hT hS h
  refine wp_loop_first (wp_mono (hb F β T hp a w _ hT hS h) fun e a' w' hq => ?_)
  cases e with
  | normal =>
    obtain ⟨γ, T', hp', h1, h2, h3⟩ := hq
    obtain ⟨n, hn⟩ := hL c bx hb F (β ++ γ) T' hp' a' w' K h1 h2 h3
    exact ⟨n, rounds_later n a' w' hn⟩
  | exit id => exact hq
  | ret => exact hq
  | goto l => exact hq.elim
  | panic c => exact hq.elim
  | outgrown => exact hq.elim

/-- A loop with something that stays the same. -/
def famL {G : Type} (S : G → LoopS) : LoopT := fun bx T hp K => ∃ g, (S g).twin bx T hp K

theorem LoopS.okR (P : Program) (S : LoopS) : LoopR P S.twin := by
  intro c bx hb F β T hp a w K hT hS h
  obtain ⟨x0, h⟩ := h
  obtain ⟨r, h1, _, hok, _, hvals, hone, hSc⟩ := mState_sound hS h (fun i j h => (by cases h)) (fun b hb => by obtain ⟨t, rfl⟩ := nthL_mem hb; exact nth_ok hT t)
  cases hall : allN S.m r <;> rw [hall] at h1
  · exact h1.elim
  · cases hfm : Nat.ble S.f S.m <;> rw [hfm] at h1
    · exact h1.elim
    · have hfm := Nat.le_of_ble_eq_true hfm
      obtain ⟨hinv, hbody⟩ := h1
      have hn := hS.n
      have hallf : allN S.f r = true := List.all_eq_true.2 fun i hi => (List.all_eq_true.1 hall) i (List.mem_range.2 (by have := List.mem_range.1 hi; omega))
      -- round by round
      have go : ∀ (k : Nat) (x : S.X) (δ : List Nat) (a : Act) (w' : World), S.mea x < k → S.inv x → δ.length = S.m → (∀ i, i < S.f → blk δ i = blk (namesOf S.m r β) i) →
          TOk δ ⟨T.n, S.tmps x, fun t => a.tmps.getD t undef⟩ a → Sat (F.off β hp (fpOf (S.heap x0) r) w) δ ⟨S.m, heapOf (S.heap x), [], S.G x⟩ w' → Code.rounds P c (QK F β K) k a w' := by
        intro k
        induction k with
        | zero => intro x δ a w' hk; omega
        | succ k ih =>
          intro x δ a w' hk hix hδ hfix hTx hSx
          show c.wp P (Exit.then (Code.rounds P c (QK F β K) k) (QK F β K)) a w'
          refine wp_mono (hb (F.off β hp (fpOf (S.heap x0) r) w) δ _ _ a w' _ hTx hSx (hbody x hix _)) fun e a' w'' hq => ?_
          have out : ∀ (γ : List Nat) (T' : Tm) (hp' : Hp) (e : XE), TOk (δ ++ γ) T' a' → Sat (F.off β hp (fpOf (S.heap x0) r) w) (δ ++ γ) hp' w'' → K e (renT (real S.f hp.n r) T') (backHp S x0 hp r hp') → Post F β (K e) a' w'' := by
            intro γ T' hp' e g1 g2 g3
            have hm := real_means (f := S.f) (r := r) (β := β) (δ := δ ++ γ) (by simp; omega) hallf hok fun i j hi hj => by
              rw [blk_append (by omega), hfix i hi, namesOf_blk (by omega) hj]
            rw [← hn] at hm
            have hn' := g2.n
            exact ⟨_, _, _, g1.ren hm, Sat.back hS g2 hm (n := hp.n + (hp'.n - S.f)) (by simp [hn, hn']), g3⟩
          cases e with
          | normal =>
            obtain ⟨γ, T', hp', g1, g2, hq⟩ := hq
            cases htn : Nat.beq T'.n T.n <;> simp only [htn] at hq
            · exact hq.elim
            obtain ⟨x', g3, g4, g5⟩ := hq
            have htn := beq_t htn
            obtain ⟨r', c1, c2, c3, _, c5, c6, c7⟩ := mState_sound g2 g5 (idN_ok _ _ _ hfm (by simp; omega)) (fun b hb => by obtain ⟨t, rfl⟩ := nthL_mem hb; exact nth_ok g1 t)
            have hall' : allN S.m r' = true := by
              cases hb : allN S.m r' <;> rw [hb] at c1
              exact c1.elim
            have c7 := Sat.unoff g2 c7
            refine ih x' (namesOf S.m r' (δ ++ γ)) a' w'' (by omega) g3 (namesOf_length _ _ _) (fun i hi => ?_) ?_ c7
            · rw [namesOf_blk (by omega) (c2 i i (idN_find hi)), blk_append (by omega), hfix i hi]
            · have := tok_head g1 (S.tmps x') (by rw [namesOf_length]; exact c6) c5
              rw [htn] at this
              exact this
          | exit id =>
            obtain ⟨γ, T', hp', g1, g2, g3⟩ := hq
            exact out γ T' hp' (.exit id) g1 g2 g3
          | ret =>
            obtain ⟨γ, T', hp', g1, g2, g3⟩ := hq
            exact out γ T' hp' .ret g1 g2 g3
          | goto l => exact hq.elim
          | panic c => exact hq.elim
          | outgrown => exact hq.elim
      have hTx := tok_head hT (S.tmps x0) (by rw [namesOf_length]; exact hone) hvals
      exact ⟨S.mea x0 + 1, go _ x0 _ a w (by omega) hinv (namesOf_length _ _ _) (fun i _ => rfl) hTx hSc⟩
theorem famL_ok {G : Type} (S : G → LoopS) (P : Program) : LoopR P (famL S) := by
  intro c bx hb F β T hp a w K hT hS h
  obtain ⟨g, h⟩ := h
  exact (S g).okR P c bx hb F β T hp a w K hT hS h

/-! ### Pieces -/

/-- What a piece of code does, from temporaries and a heap to others. -/
structure PieceS where
  X : Type
  n : Nat
  tin : X → List (Nat × SV)
  heap : X → List (Nat × SObj)
  G : X → Nat → Option Obj
  pre : X → Prop
  Y : Type
  m : Nat
  post : X → Y → Prop
  tout : X → Y → List (Nat × SV)
  heap' : X → Y → List (Nat × SObj)
  G' : X → Y → Nat → Option Obj
def PieceS.twin (S : PieceS) : LoopT := fun bx T hp K => ∃ x : S.X, mState S.n (tmpVals (S.tin x)) (nthL T (S.tin x)) (S.heap x) (S.G x) hp [] fun r =>
  bif allN S.n r && Nat.ble S.n S.m then S.pre x ∧
    (∀ d : Nat → Value, bx ⟨T.n, S.tin x, d⟩ ⟨S.n, heapOf (S.heap x), [], S.G x⟩ fun e T' hp' => (match e with
      | .normal => bif Nat.beq T'.n T.n then ∃ y : S.Y, S.post x y ∧ mState S.m (tmpVals (S.tout x y)) (nthL T' (S.tout x y)) (S.heap' x y) (S.G' x y) hp' (idN S.n) (fun r => bif allN S.m r then True else False) else False
      | _ => False)) ∧
    ∀ y : S.Y, S.post x y → ∀ d : Nat → Value, K .normal (renT (real S.n hp.n r) ⟨T.n, S.tout x y, d⟩)
      ⟨hp.n + (S.m - S.n), renH (real S.n hp.n r) (heapOf (S.heap' x y)) ++ goneH (fpOf (S.heap x) r) hp.H, [], S.G' x y⟩
  else False
theorem PieceS.ok (P : Program) (S : PieceS) : PieceOk P S.twin := by
  intro c bx hb F β T hp a w K hT hS h
  obtain ⟨x, h⟩ := h
  obtain ⟨r, h1, _, hok, _, hvals, hone, hSc⟩ := mState_sound hS h (fun i j h => (by cases h)) (fun b hb => by obtain ⟨t, rfl⟩ := nthL_mem hb; exact nth_ok hT t)
  cases hbb : (allN S.n r && Nat.ble S.n S.m) <;> rw [hbb] at h1
  · exact h1.elim
  · simp only [Bool.and_eq_true] at hbb
    obtain ⟨hall, hnm⟩ := hbb
    have hnm := Nat.le_of_ble_eq_true hnm
    obtain ⟨hpre, hbody, hK⟩ := h1
    have hTx := tok_head hT (S.tin x) (by rw [namesOf_length]; exact hone) hvals
    refine wp_mono (hb _ _ _ _ a w _ hTx hSc (hbody _)) fun e a' w' hq => ?_
    cases e with
    | normal =>
      obtain ⟨γ, T', hp', g1, g2, hq⟩ := hq
      cases htn : Nat.beq T'.n T.n <;> simp only [htn] at hq
      · exact hq.elim
      obtain ⟨y, hpost, hq⟩ := hq
      have htn := beq_t htn
      have hlen : S.n ≤ (namesOf S.n r β ++ γ).length := by simp [namesOf_length]
      obtain ⟨r', c1, c2, c3, _, c5, c6, c7⟩ := mState_sound g2 hq (idN_ok _ _ _ hnm hlen) (fun b hb => by obtain ⟨t, rfl⟩ := nthL_mem hb; exact nth_ok g1 t)
      have c7 := Sat.unoff g2 c7
      have hm := real_means (f := S.n) (r := r) (β := β) (δ := namesOf S.m r' (namesOf S.n r β ++ γ)) (by rw [namesOf_length]; exact hnm) hall hok fun i j hi hj => by
        rw [namesOf_blk (by omega) (c2 i i (idN_find hi)), blk_append (by rw [namesOf_length]; exact hi), namesOf_blk hi hj]
      have hn := hS.n
      have hback := Sat.back hS c7 hm (n := hp.n + (S.m - S.n)) (by simp [namesOf_length, hn])
      rw [← hn] at hback hm
      have hTy := tok_head g1 (S.tout x y) (by rw [namesOf_length]; exact c6) c5
      rw [htn] at hTy
      exact ⟨_, _, _, hTy.ren hm, hback, hK y hpost _⟩
    | exit id => obtain ⟨_, _, _, _, _, h3⟩ := hq; exact h3.elim
    | ret => obtain ⟨_, _, _, _, _, h3⟩ := hq; exact h3.elim
    | goto l => exact hq.elim
    | panic c => exact hq.elim
    | outgrown => exact hq.elim
theorem PieceOk.id (P : Program) : PieceOk P fun bx => bx := fun _ _ h => h
def famP {G : Type} (S : G → PieceS) : LoopT := fun bx T hp K => ∃ g, (S g).twin bx T hp K
theorem famP_ok {G : Type} (S : G → PieceS) (P : Program) : PieceOk P (famP S) := by
  intro c bx hb F β T hp a w K hT hS h
  obtain ⟨g, h⟩ := h
  exact (S g).ok P c bx hb F β T hp a w K hT hS h
end
end Vx
end
section
/- A result's block that is told to stay as it is from then on: it is one of those that are only read. -/
namespace Vx
open Go

def addG (a : Nat) (o : Obj) (G : Nat → Option Obj) : Nat → Option Obj := fun b => if b = a then some o else G b
theorem addG_sub {a : Nat} {o : Obj} {G : Nat → Option Obj} (h : G a = none) : Sub G (addG a o G) := fun b x hb => by
  simp only [addG]
  by_cases e : b = a
  · subst e; rw [h] at hb; cases hb
  · rw [if_neg e]; exact hb
theorem addG_self (a : Nat) (o : Obj) (G : Nat → Option Obj) : addG a o G a = some o := by simp [addG]

theorem Sat.freeze {F : Fr} {β : List Nat} {n : Nat} {H H' : List (Nat × Option SObj)} {G : Nat → Option Obj} {w : World} (h : Sat F β ⟨n, H, [], G⟩ w) {id : Nat} {o : SObj} (ho : getH id H = some o)
    (hH : ∀ j x, getH j H' = some x → j ≠ id ∧ getH j H = some x) : G (blk β id) = none ∧ Sat F β ⟨n, H', [], addG (blk β id) (o.den β) G⟩ w := by
  obtain ⟨g1, g2, g3, g4⟩ := h.own id o ho
  have hG : G (blk β id) = none := by
    cases hg : G (blk β id) with
    | none => rfl
    | some x => exact absurd (Or.inr hg) (g3 x)
  have hF : F.h (blk β id) = none := by
    cases hg : F.h (blk β id) with
    | none => rfl
    | some x => exact absurd (Or.inl hg) (g3 x)
  have cases_ : ∀ b x, fixd F (addG (blk β id) (o.den β) G) b x → fixd F G b x ∨ (b = blk β id ∧ x = o.den β) := fun b x hb => by
    rcases hb with hb | hb
    · exact .inl (.inl hb)
    · simp only [addG] at hb
      by_cases e : b = blk β id
      · rw [if_pos e] at hb; cases hb; exact .inr ⟨e, rfl⟩
      · rw [if_neg e] at hb; exact .inl (.inr hb)
  refine ⟨hG, h.n, h.outer, fun b x hb => ?_, fun j x hx => ?_, fun j x k y hx hy hjk => ?_, fun e he => (by cases he), fun b x hb => ?_⟩
  · rcases cases_ b x hb with hb | ⟨rfl, rfl⟩
    · exact h.ext b x hb
    · exact g4
  · obtain ⟨hj, hx⟩ := hH j x hx
    obtain ⟨k1, k2, k3, k4⟩ := h.own j x hx
    refine ⟨k1, k2, fun y hy => ?_, k4⟩
    rcases cases_ _ _ hy with hy | ⟨e, _⟩
    · exact k3 y hy
    · exact h.apart j x id o hx ho hj e
  · exact h.apart j x k y (hH j x hx).2 (hH k y hy).2 hjk
  · simp only [addG] at hb
    by_cases e : b = blk β id
    · subst e; exact hF
    · rw [if_neg e] at hb; exact h.disj b x hb

/-- A contract's end, told in its own words. -/
def Con.End (T : Con) (x : T.X) (v : SV) (hp' : Hp) : Prop :=
  ∃ y : T.Y, T.post x y ∧ mState T.m [T.res x y] [v] (T.heap' x y) (T.G' x y) hp' (idN T.n) fun _ => True
/-- Another way to come to a contract's end: one of the new blocks stays as it is from then on, and is read where it lies. -/
structure FrzTo (T : Con) where
  Y : Type
  post : T.X → Y → Prop
  res : T.X → Y → SV
  G' : T.X → Y → Nat → Option Obj
  id : Nat
  o : T.X → Y → SObj
  rest : T.X → Y → List (Nat × SObj)
  to : T.X → Y → Nat → T.Y
  obj : T.X → Y → Obj
  lo : T.n ≤ id
  hi : id < T.m
  other : ∀ x y, ∀ e ∈ rest x y, e.1 ≠ id
  den : ∀ x y ρ β, ((o x y).ren ρ).den β = obj x y
  val : ∀ x y ρ β, ((T.res x (to x y (blk β (ρ id)))).ren ρ).val β = ((res x y).ren ρ).val β
  one : ∀ x y a, (T.res x (to x y a)).one = true
  wf : ∀ x y a n, (res x y).wf n → (T.res x (to x y a)).wf n
  toHeap : ∀ x y a, T.heap' x (to x y a) = rest x y
  toG : ∀ x y a, T.G' x (to x y a) = addG a (obj x y) (G' x y)
  toPost : ∀ x y a, post x y → G' x y a = none → T.post x (to x y a)
def FrzTo.End {T : Con} (Z : FrzTo T) (x : T.X) (v : SV) (hp' : Hp) : Prop :=
  ∃ y : Z.Y, Z.post x y ∧ mState T.m [Z.res x y] [v] ((Z.id, Z.o x y) :: Z.rest x y) (Z.G' x y) hp' (idN T.n) fun _ => True

theorem getH_heapOf_mem {j : Nat} {x : SObj} {l : List (Nat × SObj)} (h : getH j (heapOf l) = some x) : ∃ e ∈ l, e.1 = j := ⟨_, mem_heapOf h, rfl⟩

variable {P : Program}
/-- Where a call's run has ended as a contract says, its caller goes on. -/
theorem Con.End.yld {T : Con} {x : T.X} {F : Fr} {β γ : List Nat} {hp hp' : Hp} {w w' : World} {r : Nm} {sv : SV} {K : SV → Hp → Prop} (hS : Sat F β hp w) (hnm : T.n ≤ T.m) (hall : allN T.n r = true)
    (hok : NmOk T.n β.length r) (k1 : Sat (F.off β hp (fpOf (T.heap x) r) w) (namesOf T.n r β ++ γ) hp' w') (k3 : sv.wf (namesOf T.n r β ++ γ).length) (h : T.End x sv hp')
    (hK : ∀ y : T.Y, T.post x y → K ((T.res x y).ren (real T.n hp.n r)) ⟨hp.n + (T.m - T.n), renH (real T.n hp.n r) (heapOf (T.heap' x y)) ++ goneH (fpOf (T.heap x) r) hp.H, [], T.G' x y⟩) :
    Yld F β K (sv.val (namesOf T.n r β ++ γ)) w' := by
  obtain ⟨y, hpost, k5⟩ := h
  have hlen : T.n ≤ (namesOf T.n r β ++ γ).length := by simp [namesOf_length]
  obtain ⟨r', c1, c2, c3, _, c5, c6, c7⟩ := mState_sound k1 k5 (idN_ok _ _ _ hnm hlen) (fun b hb => by rw [List.mem_singleton.1 hb]; exact k3)
  have c7 := Sat.unoff k1 c7
  have hm := real_means (f := T.n) (r := r) (β := β) (δ := namesOf T.m r' (namesOf T.n r β ++ γ)) (by rw [namesOf_length]; exact hnm) hall hok fun i j hi hj => by
    rw [namesOf_blk (by omega) (c2 i i (idN_find hi)), blk_append (by rw [namesOf_length]; exact hi), namesOf_blk hi hj]
  have hn := hS.n
  have hback := Sat.back hS c7 hm (n := hp.n + (T.m - T.n)) (by simp [namesOf_length, hn])
  rw [← hn] at hback hm
  obtain ⟨q1, q2⟩ := c6 (T.res x y) (List.mem_singleton.2 rfl)
  have q2' : (T.res x y).wf (namesOf T.m r' (namesOf T.n r β ++ γ)).length := by rw [namesOf_length]; exact q2
  obtain ⟨p1, p2⟩ := SV.ren_vals hm (T.res x y) q2'
  refine ⟨_, _, _, hback, by rw [SV.ren_one]; exact q1, p2, ?_, hK y hpost⟩
  have c5' : (T.res x y).val (namesOf T.m r' (namesOf T.n r β ++ γ)) = sv.val (namesOf T.n r β ++ γ) := by simpa using c5
  rw [← c5']
  simp [SV.val, p1]
theorem FrzTo.End.yld {T : Con} (Z : FrzTo T) {x : T.X} {F : Fr} {β γ : List Nat} {hp hp' : Hp} {w w' : World} {r : Nm} {sv : SV} {K : SV → Hp → Prop} (hS : Sat F β hp w) (hnm : T.n ≤ T.m) (hall : allN T.n r = true)
    (hok : NmOk T.n β.length r) (k1 : Sat (F.off β hp (fpOf (T.heap x) r) w) (namesOf T.n r β ++ γ) hp' w') (k3 : sv.wf (namesOf T.n r β ++ γ).length) (h : Z.End x sv hp')
    (hK : ∀ y : T.Y, T.post x y → K ((T.res x y).ren (real T.n hp.n r)) ⟨hp.n + (T.m - T.n), renH (real T.n hp.n r) (heapOf (T.heap' x y)) ++ goneH (fpOf (T.heap x) r) hp.H, [], T.G' x y⟩) :
    Yld F β K (sv.val (namesOf T.n r β ++ γ)) w' := by
  obtain ⟨y, hpost, k5⟩ := h
  have hlen : T.n ≤ (namesOf T.n r β ++ γ).length := by simp [namesOf_length]
  obtain ⟨r', c1, c2, c3, _, c5, c6, c7⟩ := mState_sound k1 k5 (idN_ok _ _ _ hnm hlen) (fun b hb => by rw [List.mem_singleton.1 hb]; exact k3)
  have c7 := Sat.unoff k1 c7
  have hm := real_means (f := T.n) (r := r) (β := β) (δ := namesOf T.m r' (namesOf T.n r β ++ γ)) (by rw [namesOf_length]; exact hnm) hall hok fun i j hi hj => by
    rw [namesOf_blk (by omega) (c2 i i (idN_find hi)), blk_append (by rw [namesOf_length]; exact hi), namesOf_blk hi hj]
  have hn := hS.n
  have hback := Sat.back hS c7 hm (n := hp.n + (T.m - T.n)) (by simp [namesOf_length, hn])
  rw [← hn] at hback hm
  obtain ⟨q1, q2⟩ := c6 (Z.res x y) (List.mem_singleton.2 rfl)
  have q2' : (Z.res x y).wf (namesOf T.m r' (namesOf T.n r β ++ γ)).length := by rw [namesOf_length]; exact q2
  obtain ⟨p1, p2⟩ := SV.ren_vals hm (Z.res x y) q2'
  have c5' : (Z.res x y).val (namesOf T.m r' (namesOf T.n r β ++ γ)) = sv.val (namesOf T.n r β ++ γ) := by simpa using c5
  -- the block that stays
  have hlo := Z.lo
  have hreal : real T.n hp.n r Z.id = hp.n + (Z.id - T.n) := by
    unfold real
    rw [blt_not (by omega), cond_false]
  have hne : ∀ i, i ≠ Z.id → i < T.m → real T.n hp.n r i ≠ real T.n hp.n r Z.id := by
    intro i hi him
    rw [hreal]
    unfold real
    by_cases hlt : i < T.n
    · rw [blt_of hlt, cond_true]
      have := (List.all_eq_true.1 hall) i (List.mem_range.2 hlt)
      cases hj : findN i r with
      | none => rw [hj] at this; cases this
      | some j =>
        have h2 := (hok i j hj).2
        simp only [Option.getD_some]
        omega
    · rw [blt_not (by omega), cond_false]
      omega
  have hfz := Sat.freeze hback (id := real T.n hp.n r Z.id) (o := (Z.o x y).ren (real T.n hp.n r)) (H' := renH (real T.n hp.n r) (heapOf (Z.rest x y)) ++ goneH (fpOf (T.heap x) r) hp.H)
    (by simp [heapOf, renH, getH, beq_self]) fun j s hs => by
      have hj : j ≠ real T.n hp.n r Z.id := by
        rcases getH_app hs with hs | hs
        · obtain ⟨i, o', rfl, h2, _⟩ := getH_renH hs
          obtain ⟨e, he, rfl⟩ := getH_heapOf_mem h2
          have hlt := (c7.own e.1 o' (by rw [heapOf, getH_ne (Ne.symm (Z.other x y e he))]; exact h2)).1
          rw [namesOf_length] at hlt
          exact hne _ (Z.other x y e he) hlt
        · have := (hS.own j s (getH_goneH hs).2).1
          rw [hreal, hn]
          omega
      refine ⟨hj, ?_⟩
      simp only [heapOf, renH, List.cons_append]
      rw [getH_ne (Ne.symm hj)]
      exact hs
  obtain ⟨f1, f2⟩ := hfz
  have f3 := Z.toPost x y _ hpost f1
  rw [Z.den] at f2
  have hK := hK _ f3
  rw [Z.toHeap, Z.toG] at hK
  have w1 := Z.wf x y (blk (β ++ (namesOf T.m r' (namesOf T.n r β ++ γ)).drop T.n) (real T.n hp.n r Z.id)) _ q2'
  obtain ⟨p1', p2'⟩ := SV.ren_vals hm _ w1
  refine ⟨_, _, _, f2, by rw [SV.ren_one]; exact Z.one x y _, p2', ?_, hK⟩
  rw [Z.val, ← c5']
  simp [SV.val, p1]

/-- What has to be shown of a function's text that ends in one of these two ways. -/
def Con.VcAlt (T : Con) (Z : FrzTo T) (twin : SpecT) : Prop := ∀ x : T.X, T.pre x →
  twin (T.args x) ⟨T.n, heapOf (T.heap x), [], T.G x⟩ fun v hp' => T.End x v hp' ∨ Z.End x v hp'
def Con.VcFrz (T : Con) (Z : FrzTo T) (twin : SpecT) : Prop := ∀ x : T.X, T.pre x →
  twin (T.args x) ⟨T.n, heapOf (T.heap x), [], T.G x⟩ fun v hp' => Z.End x v hp'
theorem Con.soundOf {T : Con} {E : T.X → SV → Hp → Prop} {f : Nat} {twin : SpecT} (ht : SpecOk P f twin)
    (hE : ∀ (x : T.X) (F : Fr) (β γ : List Nat) (hp hp' : Hp) (w w' : World) (r : Nm) (sv : SV) (K : SV → Hp → Prop), Sat F β hp w → T.n ≤ T.m → allN T.n r = true →
      NmOk T.n β.length r → Sat (F.off β hp (fpOf (T.heap x) r) w) (namesOf T.n r β ++ γ) hp' w' → sv.wf (namesOf T.n r β ++ γ).length → E x sv hp' →
      (∀ y : T.Y, T.post x y → K ((T.res x y).ren (real T.n hp.n r)) ⟨hp.n + (T.m - T.n), renH (real T.n hp.n r) (heapOf (T.heap' x y)) ++ goneH (fpOf (T.heap x) r) hp.H, [], T.G' x y⟩) →
      Yld F β K (sv.val (namesOf T.n r β ++ γ)) w')
    (hv : ∀ x : T.X, T.pre x → twin (T.args x) ⟨T.n, heapOf (T.heap x), [], T.G x⟩ (E x)) : SpecOk P f T.spec := by
  intro args hp K h
  obtain ⟨x, h⟩ := h
  refine ⟨?_, fun F β w hS ha => ?_⟩
  · have : T.pre x := by
      obtain ⟨r1, h1, _⟩ := mArgs_sound _ _ _ _ h
      obtain ⟨r2, h2, _⟩ := mHeap_sound _ _ _ _ h1
      cases hi : injB r2 <;> rw [hi] at h2
      · exact h2.elim
      · have h3 : (bif (allN T.n r2 && Nat.ble T.n T.m) then _ else False) := h2.2
        cases hb : (allN T.n r2 && Nat.ble T.n T.m) <;> rw [hb] at h3
        · exact h3.elim
        · exact h3.1
    exact (ht _ _ _ (hv x this)).1
  · have hw : ∀ b ∈ args, b.wf β.length := fun b hb => (ha b hb).2
    obtain ⟨r, h1, _, hok, _, hargs, hone, hSc⟩ := mState_sound hS h (fun i j h => (by cases h)) hw
    cases hb : (allN T.n r && Nat.ble T.n T.m) <;> rw [hb] at h1
    · exact h1.elim
    · simp only [Bool.and_eq_true] at hb
      obtain ⟨hall, hnm⟩ := hb
      have hnm := Nat.le_of_ble_eq_true hnm
      obtain ⟨hpre, hK⟩ := h1
      have hcall := (ht _ _ _ (hv x hpre)).2 (F.off β hp (fpOf (T.heap x) r) w) (namesOf T.n r β) w hSc (by rw [namesOf_length]; exact hone)
      rw [hargs] at hcall
      refine hcall.mono ?_
      rintro e w' ⟨v, rfl, γ, sv, hp', k1, k2, k3, rfl, k4⟩
      exact ⟨_, rfl, hE x F β γ hp hp' w w' r sv K hS hnm hall hok k1 k3 k4 hK⟩
theorem Con.soundAlt {T : Con} (Z : FrzTo T) {f : Nat} {twin : SpecT} (ht : SpecOk P f twin) (hv : T.VcAlt Z twin) : SpecOk P f T.spec :=
  Con.soundOf ht (fun _ _ _ _ _ _ _ _ _ _ _ hS hnm hall hok k1 k3 h hK => h.elim (fun h => Con.End.yld hS hnm hall hok k1 k3 h hK) (fun h => FrzTo.End.yld Z hS hnm hall hok k1 k3 h hK)) hv
theorem Con.soundFrz {T : Con} (Z : FrzTo T) {f : Nat} {twin : SpecT} (ht : SpecOk P f twin) (hv : T.VcFrz Z twin) : SpecOk P f T.spec :=
  Con.soundOf ht (fun _ _ _ _ _ _ _ _ _ _ _ hS hnm hall hok k1 k3 h hK => FrzTo.End.yld Z hS hnm hall hok k1 k3 h hK) hv

/-- How a contract's result is told when one of its new blocks stays from then on. -/
structure Frz (S : Con) where
  id : Nat
  o : S.X → S.Y → SObj
  rest : S.X → S.Y → List (Nat × SObj)
  res : S.X → S.Y → Nat → SV
  obj : S.X → S.Y → Obj
  lo : S.n ≤ id
  hi : id < S.m
  heap : ∀ x y, S.heap' x y = (id, o x y) :: rest x y
  other : ∀ x y, ∀ e ∈ rest x y, e.1 ≠ id
  den : ∀ x y ρ β, ((o x y).ren ρ).den β = obj x y
  val : ∀ x y ρ β, ((res x y (blk β (ρ id))).ren ρ).val β = ((S.res x y).ren ρ).val β
  one : ∀ x y a, (res x y a).one = true
  wf : ∀ x y a n, (S.res x y).wf n → (res x y a).wf n
def Con.frz (S : Con) (Z : Frz S) : Con where
  X := S.X
  n := S.n
  args := S.args
  heap := S.heap
  G := S.G
  pre := S.pre
  Y := S.Y × Nat
  m := S.m
  post x y := S.post x y.1 ∧ S.G' x y.1 y.2 = none
  res x y := Z.res x y.1 y.2
  heap' x y := Z.rest x y.1
  G' x y := addG y.2 (Z.obj x y.1) (S.G' x y.1)

theorem Con.soundF {S : Con} (Z : Frz S) {f : Nat} {twin : SpecT} (ht : SpecOk P f twin) (hv : S.Vc twin) : SpecOk P f (S.frz Z).spec := by
  intro args hp K h
  obtain ⟨(x : S.X), h⟩ := h
  change mState S.n (S.args x) args (S.heap x) (S.G x) hp [] (fun r =>
    bif allN S.n r && Nat.ble S.n S.m then S.pre x ∧ ∀ y : S.Y × Nat, (S.post x y.1 ∧ S.G' x y.1 y.2 = none) →
      K ((Z.res x y.1 y.2).ren (real S.n hp.n r)) ⟨hp.n + (S.m - S.n), renH (real S.n hp.n r) (heapOf (Z.rest x y.1)) ++ goneH (fpOf (S.heap x) r) hp.H, [], addG y.2 (Z.obj x y.1) (S.G' x y.1)⟩
    else False) at h
  refine ⟨?_, fun F β w hS ha => ?_⟩
  · have : S.pre x := by
      obtain ⟨r1, h1, _⟩ := mArgs_sound _ _ _ _ h
      obtain ⟨r2, h2, _⟩ := mHeap_sound _ _ _ _ h1
      cases hi : injB r2 <;> rw [hi] at h2
      · exact h2.elim
      · have h3 : (bif (allN S.n r2 && Nat.ble S.n S.m) then _ else False) := h2.2
        cases hb : (allN S.n r2 && Nat.ble S.n S.m) <;> rw [hb] at h3
        · exact h3.elim
        · exact h3.1
    exact (ht _ _ _ (hv x this)).1
  · have hw : ∀ b ∈ args, b.wf β.length := fun b hb => (ha b hb).2
    obtain ⟨r, h1, _, hok, _, hargs, hone, hSc⟩ := mState_sound hS h (fun i j h => (by cases h)) hw
    cases hb : (allN S.n r && Nat.ble S.n S.m) <;> rw [hb] at h1
    · exact h1.elim
    · simp only [Bool.and_eq_true] at hb
      obtain ⟨hall, hnm⟩ := hb
      have hnm := Nat.le_of_ble_eq_true hnm
      obtain ⟨hpre, hK⟩ := h1
      have hcall := (ht _ _ _ (hv x hpre)).2 (F.off β hp (fpOf (S.heap x) r) w) (namesOf S.n r β) w hSc (by rw [namesOf_length]; exact hone)
      rw [hargs] at hcall
      refine hcall.mono ?_
      rintro e w' ⟨v, rfl, γ, sv, hp', k1, k2, k3, rfl, y, hpost, k5⟩
      refine ⟨_, rfl, ?_⟩
      have hlen : S.n ≤ (namesOf S.n r β ++ γ).length := by simp [namesOf_length]
      obtain ⟨r', c1, c2, c3, _, c5, c6, c7⟩ := mState_sound k1 k5 (idN_ok _ _ _ hnm hlen) (fun b hb => by rw [List.mem_singleton.1 hb]; exact k3)
      have hall' : allN S.m r' = true := by
        cases hb : allN S.m r' <;> rw [hb] at c1
        exact c1.elim
      have c7 := Sat.unoff k1 c7
      have hm := real_means (f := S.n) (r := r) (β := β) (δ := namesOf S.m r' (namesOf S.n r β ++ γ)) (by rw [namesOf_length]; exact hnm) hall hok fun i j hi hj => by
        rw [namesOf_blk (by omega) (c2 i i (idN_find hi)), blk_append (by rw [namesOf_length]; exact hi), namesOf_blk hi hj]
      have hn := hS.n
      have hback := Sat.back hS c7 hm (n := hp.n + (S.m - S.n)) (by simp [namesOf_length, hn])
      rw [← hn] at hback hm
      obtain ⟨q1, q2⟩ := c6 (S.res x y) (List.mem_singleton.2 rfl)
      have q2' : (S.res x y).wf (namesOf S.m r' (namesOf S.n r β ++ γ)).length := by rw [namesOf_length]; exact q2
      obtain ⟨p1, p2⟩ := SV.ren_vals hm (S.res x y) q2'
      have c5' : (S.res x y).val (namesOf S.m r' (namesOf S.n r β ++ γ)) = sv.val (namesOf S.n r β ++ γ) := by simpa using c5
      -- the block that stays
      have hreal : real S.n hp.n r Z.id = hp.n + (Z.id - S.n) := by
        have := Z.lo
        unfold real
        rw [blt_not (by omega), cond_false]
      have hne : ∀ i, i ≠ Z.id → i < S.m → real S.n hp.n r i ≠ real S.n hp.n r Z.id := by
        intro i hi him
        rw [hreal]
        unfold real
        by_cases hlt : i < S.n
        · rw [blt_of hlt, cond_true]
          have := (List.all_eq_true.1 hall) i (List.mem_range.2 hlt)
          cases hj : findN i r with
          | none => rw [hj] at this; cases this
          | some j =>
            have h2 := (hok i j hj).2
            simp only [Option.getD_some]
            omega
        · rw [blt_not (by omega), cond_false]
          have := Z.lo
          omega
      rw [Z.heap x y] at hback
      have hfz := Sat.freeze hback (id := real S.n hp.n r Z.id) (o := (Z.o x y).ren (real S.n hp.n r)) (H' := renH (real S.n hp.n r) (heapOf (Z.rest x y)) ++ goneH (fpOf (S.heap x) r) hp.H)
        (by simp [heapOf, renH, getH, beq_self]) fun j s hs => by
          have hj : j ≠ real S.n hp.n r Z.id := by
            rcases getH_app hs with hs | hs
            · obtain ⟨i, o', rfl, h2, _⟩ := getH_renH hs
              obtain ⟨e, he, rfl⟩ := getH_heapOf_mem h2
              have hlt := (c7.own e.1 o' (by rw [Z.heap x y, heapOf, getH_ne (Ne.symm (Z.other x y e he))]; exact h2)).1
              rw [namesOf_length] at hlt
              exact hne _ (Z.other x y e he) hlt
            · have := (hS.own j s (getH_goneH hs).2).1
              rw [hreal, hn]
              omega
          refine ⟨hj, ?_⟩
          simp only [heapOf, renH, List.cons_append]
          rw [getH_ne (Ne.symm hj)]
          exact hs
      obtain ⟨f1, f2⟩ := hfz
      rw [Z.den] at f2
      have w1 := Z.wf x y (blk (β ++ (namesOf S.m r' (namesOf S.n r β ++ γ)).drop S.n) (real S.n hp.n r Z.id)) _ q2'
      obtain ⟨p1', p2'⟩ := SV.ren_vals hm _ w1
      refine ⟨_, _, _, f2, by rw [SV.ren_one]; exact Z.one x y _, p2', ?_, hK (y, _) ⟨hpost, f1⟩⟩
      rw [Z.val, ← c5']
      simp [SV.val, p1]
end Vx
end
