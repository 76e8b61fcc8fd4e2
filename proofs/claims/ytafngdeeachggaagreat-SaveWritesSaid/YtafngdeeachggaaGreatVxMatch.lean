/- A state held against a pattern: other names, and what has to be alike. -/
import Derived.Test.YtafngdeeachggaaGreatVxRen
set_option linter.unusedVariables false
set_option linter.unusedSimpArgs false
namespace Vx
open Go

abbrev Nm := List (Nat × Nat)
def findN (i : Nat) : Nm → Option Nat
  | [] => none
  | (k, j) :: r => bif Nat.beq k i then some j else findN i r
def mId (m i j : Nat) (r : Nm) (K : Nm → Prop) : Prop :=
  match findN i r with
  | some j' => bif Nat.beq j' j then K r else False
  | none => bif Nat.blt i m then K ((i, j) :: r) else False

def catO {α : Type} (a : List α) (b : Option (List α)) : Option (List α) :=
  match b with
  | none => some a
  | some b => some (a ++ b)
/-- The integers that a row begins with; how many; what follows. -/
def takeI (k : IntKind) : SV → Option (List Int) × NE × SV
  | .cons h t => (match h with
    | .int k' x => bif decide (k' = k) then (match takeI k t with | (ys, n, t') => (catO [x.den] ys, addN (.lit 1) n, t')) else (none, .lit 0, .cons h t)
    | .run k' m xs => bif decide (k' = k) then (match takeI k t with | (ys, n, t') => (catO xs.den ys, addN m n, t')) else (none, .lit 0, .cons h t)
    | _ => (none, .lit 0, .cons h t))
  | x => (none, .lit 0, x)
/-- A value in which no block is named. -/
def flat : SV → Option Value
  | .int k x => some (.int k x.den)
  | .bool b => some (.bool b.den)
  | .str s => some (.string s.den)
  | .nilptr => some (.pointer none)
  | .nilslice => some (.slice none 0 0)
  | .nilmap => some (.map none)
  | .opq v => some v
  | .gsl a l c => some (.slice a l.den c.den)
  | .gptr b o => some (.pointer (some ⟨b, o, none⟩))
  | _ => none
def rowVals : SV → Option (Option (List Value))
  | .nil => some none
  | .cons h t => (match rowVals t with
    | none => none
    | some r => (match h with
      | .blob _ vs => some (catO vs r)
      | .run k _ xs => some (catO (xs.den.map (.int k)) r)
      | h => (match flat h with
        | some v => some (catO [v] r)
        | none => none)))
  | _ => none

def SV.isNil : SV → Bool
  | .nil => true
  | _ => false
theorem SV.isNil_sound : ∀ {x : SV}, x.isNil = true → x = .nil
  | .nil, _ => rfl
/-- A pattern and a value: the names, and what has to be alike. -/
def mV (m : Nat) : SV → SV → Nm → (Nm → Prop) → Prop
  | .ptr i o, .ptr j o', r, K => mId m i j r fun r => eqO o o' (K r)
  | .slice i o l c, .slice j o' l' c', r, K => mId m i j r fun r => eqO o o' (eqM l l' (eqM c c' (K r)))
  | .map i, .map j, r, K => mId m i j r K
  | .int k a, .int k' b, r, K => bif decide (k = k') then eqI a b (K r) else False
  | .bool a, .bool b, r, K => eqB a b (K r)
  | .str a, .str b, r, K => a.den = b.den ∧ K r
  | .nilptr, .nilptr, r, K => K r
  | .nilslice, .nilslice, r, K => K r
  | .nilmap, .nilmap, r, K => K r
  | .gsl a l c, b, r, K => (match b with
    | .gsl a' l' c' => a = a' ∧ eqM l l' (eqM c c' (K r))
    | .nilslice => a = none ∧ l.den = 0 ∧ c.den = 0 ∧ K r
    | _ => False)
  | .gptr b o, .gptr b' o', r, K => b = b' ∧ o = o' ∧ K r
  | .opq v, b, r, K => (match flat b with
    | some u => v = u ∧ K r
    | none => False)
  | .agg a, .agg b, r, K => mV m a b r K
  | .tup a, .tup b, r, K => mV m a b r K
  | .nil, .nil, r, K => K r
  | .cons p rest, b, r, K => (match p with
    | .run k n xs => (match takeI k b with
      | (ys, w, b') => xs.den = ys.getD [] ∧ n.den = w.den ∧ mV m rest b' r K)
    | .blob n vs => bif rest.isNil then (match rowVals b with
        | some o => bif b.cells then vs = o.getD [] ∧ n.den = b.widN.den ∧ K r else False
        | none => False)
      else (match cutBlob b with
        | some (p, w, ws) => (match rowVals p with
          | some o => bif p.cells then vs = o.getD [] ∧ n.den = p.widN.den ∧ mV m rest (.cons (.blob w ws) .nil) r K else False
          | none => False)
        | none => False)
    | _ => (match b with
      | .cons h t => mV m p h r fun r => mV m rest t r K
      | _ => False))
  | _, _, _, _ => False

section
variable {m : Nat} {β βp : List Nat}
def Le (r r' : Nm) : Prop := ∀ i j, findN i r = some j → findN i r' = some j
/-- The names stand for the same blocks. -/
def Agree (r : Nm) (βp β : List Nat) : Prop := ∀ i j, findN i r = some j → blk βp i = blk β j
def NmOk (m n : Nat) (r : Nm) : Prop := ∀ i j, findN i r = some j → i < m ∧ j < n
theorem Le.refl (r : Nm) : Le r r := fun _ _ h => h
theorem Le.trans {a b c : Nm} (h : Le a b) (h' : Le b c) : Le a c := fun i j hi => h' i j (h i j hi)
theorem Agree.le {r r' : Nm} (h : Le r r') (ha : Agree r' βp β) : Agree r βp β := fun i j hi => ha i j (h i j hi)

theorem mId_sound {i j : Nat} {r : Nm} {K : Nm → Prop} (h : mId m i j r K) : ∃ r', Le r r' ∧ K r' ∧ findN i r' = some j ∧ (∀ n, j < n → NmOk m n r → NmOk m n r') := by
  unfold mId at h
  split at h
  · rename_i j' hj
    cases hb : Nat.beq j' j <;> rw [hb] at h
    · exact h.elim
    · have := beq_t hb
      subst this
      exact ⟨r, Le.refl r, h, hj, fun n _ h => h⟩
  · rename_i hn
    cases hb : Nat.blt i m <;> rw [hb] at h
    · exact h.elim
    · refine ⟨_, fun i' j' h' => ?_, h, by simp [findN, beq_self], fun n hj hk i' j' h' => ?_⟩
      · by_cases he : i = i'
        · subst he; rw [hn] at h'; cases h'
        · simp [findN, beq_ne he, h']
      · by_cases he : i = i'
        · subst he; simp [findN, beq_self] at h'; subst h'; exact ⟨blt_t hb, hj⟩
        · simp [findN, beq_ne he] at h'; exact hk i' j' h'

theorem catO_getD {α : Type} (a : List α) (b : Option (List α)) : (catO a b).getD [] = a ++ b.getD [] := by
  cases b <;> simp [catO]
theorem takeI_sound (β : List Nat) (k : IntKind) : ∀ b : SV, b.vals β = ((takeI k b).1.getD []).map (.int k) ++ (takeI k b).2.2.vals β ∧
    (b.wf β.length → ((takeI k b).1.getD []).length = (takeI k b).2.1.den ∧ (takeI k b).2.2.wf β.length) := by
  intro b
  induction b with
  | cons h t _ ih =>
    have triv : ∀ h : SV, (SV.cons h t).vals β = (([] : List Int)).map (Value.int k) ++ (SV.cons h t).vals β ∧ ((SV.cons h t).wf β.length → ([] : List Int).length = (NE.lit 0).den ∧ (SV.cons h t).wf β.length) :=
      fun h => ⟨rfl, fun hw => ⟨rfl, hw⟩⟩
    simp only [takeI]
    cases h with
    | int k' x =>
      simp only
      cases hd : decide (k' = k)
      · exact triv _
      · have := of_decide_eq_true hd
        subst this
        simp only [cond_true]
        refine ⟨?_, fun hw => ?_⟩
        · rw [catO_getD]
          simp only [SV.vals, ih.1, List.map_append, List.append_assoc]
          rfl
        · obtain ⟨h1, h2⟩ := ih.2 hw.2
          rw [catO_getD, addN_den, NE_lit]
          exact ⟨by simp [h1, Nat.add_comm], h2⟩
    | run k' n xs =>
      simp only
      cases hd : decide (k' = k)
      · exact triv _
      · have := of_decide_eq_true hd
        subst this
        simp only [cond_true]
        refine ⟨?_, fun hw => ?_⟩
        · rw [catO_getD]
          simp only [SV.vals, ih.1, List.map_append, List.append_assoc]
        · obtain ⟨h1, h2⟩ := ih.2 hw.2
          have h3 : xs.den.length = n.den := hw.1
          rw [catO_getD, addN_den]
          exact ⟨by simp [h1, h3], h2⟩
    | _ => exact triv _
  | _ => exact ⟨rfl, fun hw => ⟨rfl, hw⟩⟩

theorem flat_sound (β : List Nat) {x : SV} {v : Value} (h : flat x = some v) : x.vals β = [v] := by
  cases x <;> simp only [flat, Option.some.injEq] at h <;> first | (subst h; rfl) | cases h
theorem rowVals_sound (β : List Nat) : ∀ (b : SV) (o : Option (List Value)), rowVals b = some o → b.vals β = o.getD [] := by
  intro b
  induction b with
  | nil => intro o h; cases h; rfl
  | cons x t _ ih =>
    intro o h
    simp only [rowVals] at h
    split at h
    · cases h
    · rename_i r hr
      have h2 := ih r hr
      split at h
      · cases h; rw [catO_getD]; simp [SV.vals, h2]
      · cases h; rw [catO_getD]; simp [SV.vals, h2]
      · split at h
        · rename_i v hv
          cases h; rw [catO_getD]; simp [SV.vals, h2, flat_sound β hv]
        · cases h
  | _ => intro o h; cases h
theorem widN_len : ∀ b : SV, b.wf β.length → b.widN.den = (b.vals β).length
  | .nil, _ => rfl
  | .cons h t, hw => by simp [SV.widN, addN_den, SV.vals, widN_len h hw.1, widN_len t hw.2]
  | .run _ n xs, hw => by simp only [SV.widN, SV.vals, List.length_map]; exact hw.symm
  | .blob n vs, hw => by simp only [SV.widN, SV.vals]; exact hw.1.symm
  | .int .., _ => rfl
  | .bool .., _ => rfl
  | .str .., _ => rfl
  | .nilptr, _ => rfl
  | .ptr .., _ => rfl
  | .nilslice, _ => rfl
  | .slice .., _ => rfl
  | .nilmap, _ => rfl
  | .map .., _ => rfl
  | .opq .., _ => rfl
  | .fn .., _ => rfl
  | .iface .., _ => rfl
  | .agg .., _ => rfl
  | .tup .., _ => rfl
  | .gsl .., _ => rfl
  | .gptr .., _ => rfl

/-- What a match says. -/
structure MV (m : Nat) (a b : SV) (r r' : Nm) : Prop where
  le : Le r r'
  ok : ∀ n, b.wf n → NmOk m n r → NmOk m n r'
  vals : ∀ β βp, Agree r' βp β → b.wf β.length → a.vals βp = b.vals β
  wf : ∀ n, b.wf n → NmOk m n r' → a.wf m
theorem MV.of {m : Nat} {a b : SV} {r : Nm} (h : ∀ β βp, a.vals βp = b.vals β) (hw : ∀ n, b.wf n → a.wf m) : MV m a b r r :=
  ⟨Le.refl r, fun _ _ h => h, fun β βp _ _ => h β βp, fun n hn _ => hw n hn⟩

theorem mV_sound (m : Nat) : ∀ (a b : SV) (r : Nm) (K : Nm → Prop), mV m a b r K → ∃ r', K r' ∧ MV m a b r r' := by
  intro a
  induction a with
  | ptr i o =>
    intro b r K h
    cases b <;> try exact h.elim
    obtain ⟨r', h1, h2, h3, h4⟩ := mId_sound (h : mId m i _ r _)
    obtain ⟨h5, h6⟩ := eqO_sound h2
    refine ⟨r', h6, h1, fun n hn => h4 n hn, fun β βp hA _ => ?_, fun n hn hok => (hok _ _ h3).1⟩
    simp [SV.vals, hA _ _ h3, h5]
  | slice i o l c =>
    intro b r K h
    cases b <;> try exact h.elim
    obtain ⟨r', h1, h2, h3, h4⟩ := mId_sound (h : mId m i _ r _)
    obtain ⟨h5, h6⟩ := eqO_sound h2
    obtain ⟨h7, h6⟩ := eqM_sound h6
    obtain ⟨h8, h6⟩ := eqM_sound h6
    refine ⟨r', h6, h1, fun n hn => h4 n hn, fun β βp hA _ => ?_, fun n hn hok => (hok _ _ h3).1⟩
    simp [SV.vals, hA _ _ h3, h5, h7, h8]
  | map i =>
    intro b r K h
    cases b <;> try exact h.elim
    obtain ⟨r', h1, h2, h3, h4⟩ := mId_sound (h : mId m i _ r _)
    refine ⟨r', h2, h1, fun n hn => h4 n hn, fun β βp hA _ => ?_, fun n hn hok => (hok _ _ h3).1⟩
    simp [SV.vals, hA _ _ h3]
  | int k x =>
    intro b r K h
    cases b <;> try exact h.elim
    simp only [mV] at h
    rename_i k' y
    cases hd : decide (k = k') <;> rw [hd] at h
    · exact h.elim
    · obtain ⟨h1, h2⟩ := eqI_sound h
      have := of_decide_eq_true hd
      exact ⟨r, h2, MV.of (fun β βp => by simp [SV.vals, h1, this]) fun _ _ => trivial⟩
  | bool x =>
    intro b r K h
    cases b <;> try exact h.elim
    obtain ⟨h1, h2⟩ := eqB_sound h
    exact ⟨r, h2, MV.of (fun β βp => by simp [SV.vals, h1]) fun _ _ => trivial⟩
  | str x =>
    intro b r K h
    cases b <;> try exact h.elim
    exact ⟨r, h.2, MV.of (fun β βp => by simp [SV.vals, h.1]) fun _ _ => trivial⟩
  | nilptr => intro b r K h; cases b <;> first | exact ⟨r, h, MV.of (fun _ _ => rfl) fun _ _ => trivial⟩ | exact h.elim
  | nilslice => intro b r K h; cases b <;> first | exact ⟨r, h, MV.of (fun _ _ => rfl) fun _ _ => trivial⟩ | exact h.elim
  | nilmap => intro b r K h; cases b <;> first | exact ⟨r, h, MV.of (fun _ _ => rfl) fun _ _ => trivial⟩ | exact h.elim
  | nil => intro b r K h; cases b <;> first | exact ⟨r, h, MV.of (fun _ _ => rfl) fun _ _ => trivial⟩ | exact h.elim
  | gsl x l c =>
    intro b r K h
    cases b <;> try exact h.elim
    · obtain ⟨h1, h2, h3, h4⟩ := h
      exact ⟨r, h4, MV.of (fun β βp => by simp [SV.vals, h1, h2, h3]) fun _ _ => trivial⟩
    · obtain ⟨h1, h⟩ := h
      obtain ⟨h2, h⟩ := eqM_sound h
      obtain ⟨h3, h⟩ := eqM_sound h
      exact ⟨r, h, MV.of (fun β βp => by simp [SV.vals, h1, h2, h3]) fun _ _ => trivial⟩
  | gptr x o =>
    intro b r K h
    cases b <;> try exact h.elim
    exact ⟨r, h.2.2, MV.of (fun β βp => by simp [SV.vals, h.1, h.2.1]) fun _ _ => trivial⟩
  | opq v =>
    intro b r K h
    have h : (match flat b with | some u => v = u ∧ K r | none => False) := h
    split at h
    · rename_i u hu
      exact ⟨r, h.2, MV.of (fun β βp => by rw [flat_sound β hu, h.1]; rfl) fun _ _ => trivial⟩
    · exact h.elim
  | agg x ih =>
    intro b r K h
    cases b <;> try exact h.elim
    obtain ⟨r', h1, h2⟩ := ih _ r K h
    exact ⟨r', h1, h2.le, h2.ok, fun β βp hA hw => by simp [SV.vals, h2.vals β βp hA hw], h2.wf⟩
  | tup x ih =>
    intro b r K h
    cases b <;> try exact h.elim
    obtain ⟨r', h1, h2⟩ := ih _ r K h
    exact ⟨r', h1, h2.le, h2.ok, fun β βp hA hw => by simp [SV.vals, h2.vals β βp hA hw], h2.wf⟩
  | cons p rest ihp ihr =>
    intro b r K h
    have step : ∀ x t, mV m p x r (fun r => mV m rest t r K) → ∃ r', K r' ∧ MV m (.cons p rest) (.cons x t) r r' := by
      intro x t h
      obtain ⟨r1, h1, h2⟩ := ihp x r _ h
      obtain ⟨r2, h3, h4⟩ := ihr t r1 K h1
      refine ⟨r2, h3, h2.le.trans h4.le, fun n hn hok => h4.ok n hn.2 (h2.ok n hn.1 hok), fun β βp hA hw => ?_, fun n hn hok => ⟨h2.wf n hn.1 fun i j hi => hok i j (h4.le i j hi), h4.wf n hn.2 hok⟩⟩
      simp [SV.vals, h2.vals β βp (Agree.le h4.le hA) hw.1, h4.vals β βp hA hw.2]
    cases p with
    | run k n xs =>
      simp only [mV] at h
      obtain ⟨h1, h2, h⟩ := h
      obtain ⟨r', h3, h4⟩ := ihr _ r K h
      refine ⟨r', h3, h4.le, fun n hn hok => h4.ok n ?_ hok, fun β βp hA hw => ?_, fun n hn hok => ?_⟩
      · have := (takeI_sound (List.replicate n 0) k b).2 (by simpa using hn)
        simpa using this.2
      · obtain ⟨g1, g2⟩ := takeI_sound β k b
        have g3 := g2 hw
        rw [g1]
        simp only [SV.vals, h1, h4.vals β βp hA g3.2]
      · have := (takeI_sound (List.replicate n 0) k b).2 (by simpa using hn)
        simp only [List.length_replicate] at this
        exact ⟨by show xs.den.length = _; rw [h1, h2]; exact this.1, h4.wf n this.2 hok⟩
    | blob n vs =>
      simp only [mV] at h
      cases hnil : rest.isNil <;> rw [hnil] at h
      · simp only [cond_false] at h
        split at h
        · rename_i p w ws hcb
          split at h
          · rename_i o ho
            cases hc : p.cells <;> rw [hc] at h
            · exact h.elim
            · obtain ⟨h1, h2, h3⟩ := h
              obtain ⟨r', h4, h5⟩ := ihr _ r K h3
              refine ⟨r', h4, h5.le, fun k hk hok => h5.ok k ?_ hok, fun β βp hA hw => ?_, fun k hk hok => ?_⟩
              · obtain ⟨b1, b2, b3, b4⟩ := cutBlob_sound (β := List.replicate k 0) b p w ws (by simpa using hk) hcb
                exact ⟨⟨b3, b4⟩, trivial⟩
              · obtain ⟨b1, b2, b3, b4⟩ := cutBlob_sound (β := β) b p w ws hw hcb
                have e1 := h5.vals β βp hA ⟨⟨b3, b4⟩, trivial⟩
                have e2 := rowVals_sound β p o ho
                simp only [SV.vals, List.append_nil] at e1 ⊢
                rw [e1, b1, e2, h1]
              · obtain ⟨b1, b2, b3, b4⟩ := cutBlob_sound (β := List.replicate k 0) b p w ws (by simpa using hk) hcb
                have e2 := rowVals_sound (List.replicate k 0) p o ho
                refine ⟨⟨?_, fun v hv' => ?_⟩, h5.wf k ⟨⟨b3, b4⟩, trivial⟩ hok⟩
                · rw [h2, widN_len p b2, e2, h1]
                · exact SV.cells_sound b2 hc v (by rw [e2, ← h1]; exact hv')
          · exact h.elim
        · exact h.elim
      · simp only [cond_true] at h
        have := SV.isNil_sound hnil
        subst this
        split at h
        · rename_i o ho
          cases hc : b.cells <;> rw [hc] at h
          · exact h.elim
          · obtain ⟨h1, h2, h3⟩ := h
            refine ⟨r, h3, Le.refl r, fun _ _ h => h, fun β βp _ hw => ?_, fun k hk _ => ?_⟩
            · rw [rowVals_sound β b o ho]; simp [SV.vals, h1]
            · have hk' : b.wf (List.replicate k 0).length := by simpa using hk
              have hv := rowVals_sound (List.replicate k 0) b o ho
              refine ⟨⟨?_, fun v hv' => ?_⟩, trivial⟩
              · rw [h2, widN_len b hk', hv, h1]
              · exact SV.cells_sound hk' hc v (by rw [hv, ← h1]; exact hv')
        · exact h.elim
    | _ =>
      cases b <;> first | exact step _ _ h | exact h.elim
  | _ => intro b r K h; exact h.elim
end
end Vx
