/- What functions and loops do, said once: patterns of arguments, heaps and results. -/
import Derived.Test.YtafngdeeachggaaGreatVxMatch
set_option linter.unusedVariables false
set_option linter.unusedSimpArgs false
namespace Vx
open Go

def mArgs (m : Nat) : List SV → List SV → Nm → (Nm → Prop) → Prop
  | [], [], r, K => K r
  | a :: as, b :: bs, r, K => bif a.one then mV m a b r fun r => mArgs m as bs r K else False
  | _, _, _, _ => False
def mObj (m : Nat) : SObj → SObj → Nm → (Nm → Prop) → Prop
  | .cells l e z, .cells l' e' z', r, K => bif Nat.beq e e' then (bif decide (z = z') then mV m l l' r K else False) else False
  | .other o, .other o', r, K => o = o' ∧ K r
  | _, _, _, _ => False
def mHeap (m : Nat) : List (Nat × SObj) → List (Nat × Option SObj) → Nm → (Nm → Prop) → Prop
  | [], _, r, K => K r
  | (i, o) :: l, H, r, K => (match findN i r with
    | some j => (match getH j H with
      | some o' => mObj m o o' r fun r => mHeap m l H r K
      | none => False)
    | none => False)
def Sub (G G' : Nat → Option Obj) : Prop := ∀ b o, G b = some o → G' b = some o
theorem Sub.refl (G : Nat → Option Obj) : Sub G G := fun _ _ h => h
theorem Sub.trans {A B C : Nat → Option Obj} (h : Sub A B) (h' : Sub B C) : Sub A C := fun b o hb => h' b o (h b o hb)

def injB (r : Nm) : Bool := r.all fun p => r.all fun q => bif Nat.beq p.2 q.2 then Nat.beq p.1 q.1 else true
def heapOf : List (Nat × SObj) → List (Nat × Option SObj)
  | [] => []
  | (i, o) :: l => (i, some o) :: heapOf l
/-- Arguments and a heap against a pattern. -/
def mState (m : Nat) (ps as : List SV) (hs : List (Nat × SObj)) (G : Nat → Option Obj) (hp : Hp) (r : Nm) (K : Nm → Prop) : Prop :=
  mArgs m ps as r fun r => mHeap m hs hp.H r fun r => bif injB r then Sub G hp.G ∧ K r else False

theorem mem_heapOf {i : Nat} {o : SObj} : ∀ {l : List (Nat × SObj)}, getH i (heapOf l) = some o → (i, o) ∈ l
  | [], h => (by cases h)
  | (j, x) :: l, h => by
    simp only [heapOf, getH] at h
    cases hb : Nat.beq j i <;> rw [hb] at h
    · exact List.mem_cons_of_mem _ (mem_heapOf h)
    · have := beq_t hb
      subst this
      cases h
      exact List.mem_cons_self
theorem findN_mem {i j : Nat} : ∀ {r : Nm}, findN i r = some j → (i, j) ∈ r
  | [], h => (by cases h)
  | (k, x) :: r, h => by
    simp only [findN] at h
    cases hb : Nat.beq k i <;> rw [hb] at h
    · exact List.mem_cons_of_mem _ (findN_mem h)
    · have := beq_t hb
      subst this
      cases h
      exact List.mem_cons_self
theorem injB_sound {r : Nm} (h : injB r = true) {i i' j : Nat} (h1 : findN i r = some j) (h2 : findN i' r = some j) : i = i' := by
  simp only [injB, List.all_eq_true] at h
  have := h _ (findN_mem h1) _ (findN_mem h2)
  simp only [beq_self, cond_true] at this
  exact beq_t this

section
variable {m : Nat}
theorem mArgs_sound : ∀ (ps as : List SV) (r : Nm) (K : Nm → Prop), mArgs m ps as r K → ∃ r', K r' ∧ Le r r' ∧ (∀ n, (∀ b ∈ as, b.wf n) → NmOk m n r → NmOk m n r') ∧
    (∀ β βp, Agree r' βp β → (∀ b ∈ as, b.wf β.length) → ps.map (SV.val βp) = as.map (SV.val β)) ∧ (∀ n, (∀ b ∈ as, b.wf n) → NmOk m n r' → ∀ a ∈ ps, a.one = true ∧ a.wf m)
  | [], [], r, K, h => ⟨r, h, Le.refl r, fun _ _ h => h, fun _ _ _ _ => rfl, fun _ _ _ a ha => (by cases ha)⟩
  | a :: as, b :: bs, r, K, h => by
    simp only [mArgs] at h
    cases ho : a.one <;> rw [ho] at h
    · exact h.elim
    · obtain ⟨r1, h1, h2⟩ := mV_sound m a b r _ h
      obtain ⟨r2, g1, g2, g3, g4, g5⟩ := mArgs_sound as bs r1 K h1
      refine ⟨r2, g1, h2.le.trans g2, fun n hn hok => g3 n (fun b hb => hn b (List.mem_cons_of_mem _ hb)) (h2.ok n (hn b List.mem_cons_self) hok), fun β βp hA hw => ?_, fun n hn hok x hx => ?_⟩
      · have h3 := h2.vals β βp (Agree.le g2 hA) (hw b List.mem_cons_self)
        have h4 := g4 β βp hA fun b hb => hw b (List.mem_cons_of_mem _ hb)
        simp [SV.val, h3, h4]
      · rcases List.mem_cons.1 hx with rfl | hx
        · exact ⟨ho, h2.wf n (hn b List.mem_cons_self) fun i j hi => hok i j (g2 i j hi)⟩
        · exact g5 n (fun b hb => hn b (List.mem_cons_of_mem _ hb)) hok x hx
  | [], _ :: _, _, _, h => h.elim
  | _ :: _, [], _, _, h => h.elim

theorem mObj_sound (o o' : SObj) (r : Nm) (K : Nm → Prop) (h : mObj m o o' r K) : ∃ r', K r' ∧ Le r r' ∧ (∀ n, o'.wf n → NmOk m n r → NmOk m n r') ∧
    (∀ β βp, Agree r' βp β → o'.wf β.length → o.den βp = o'.den β) ∧ (∀ n, o'.wf n → NmOk m n r' → o.wf m) := by
  unfold mObj at h
  split at h
  · rename_i l e z l' e' z'
    cases hb : Nat.beq e e' <;> rw [hb] at h
    · exact h.elim
    · cases hd : decide (z = z') <;> rw [hd] at h
      · exact h.elim
      · have := beq_t hb
        subst this
        have := of_decide_eq_true hd
        subst this
        obtain ⟨r1, h1, h2⟩ := mV_sound m l l' r _ h
        exact ⟨r1, h1, h2.le, h2.ok, fun β βp hA hw => by simp only [SObj.den, h2.vals β βp hA hw], h2.wf⟩
  · obtain ⟨rfl, h⟩ := h
    exact ⟨r, h, Le.refl r, fun _ _ h => h, fun _ _ _ _ => rfl, fun _ _ _ => trivial⟩
  · exact h.elim

theorem mHeap_sound : ∀ (l : List (Nat × SObj)) (H : List (Nat × Option SObj)) (r : Nm) (K : Nm → Prop), mHeap m l H r K → ∃ r', K r' ∧ Le r r' ∧
    (∀ n, (∀ j o, getH j H = some o → o.wf n) → NmOk m n r → NmOk m n r') ∧
    (∀ e ∈ l, ∃ j o', findN e.1 r' = some j ∧ getH j H = some o' ∧ (∀ β βp, Agree r' βp β → o'.wf β.length → e.2.den βp = o'.den β) ∧ (∀ n, o'.wf n → NmOk m n r' → e.2.wf m))
  | [], H, r, K, h => ⟨r, h, Le.refl r, fun _ _ h => h, fun e he => (by cases he)⟩
  | (i, o) :: l, H, r, K, h => by
    simp only [mHeap] at h
    split at h
    · rename_i j hj
      split at h
      · rename_i o' ho
        obtain ⟨r1, h1, h2, h3, h4, h5⟩ := mObj_sound o o' r _ h
        obtain ⟨r2, g1, g2, g3, g4⟩ := mHeap_sound l H r1 K h1
        refine ⟨r2, g1, h2.trans g2, fun n hn hok => g3 n hn (h3 n (hn j o' ho) hok), fun e he => ?_⟩
        rcases List.mem_cons.1 he with rfl | he
        · exact ⟨j, o', g2 _ _ (h2 _ _ hj), ho, fun β βp hA => h4 β βp (Agree.le g2 hA), fun n hn hok => h5 n hn fun i j hi => hok i j (g2 i j hi)⟩
        · exact g4 e he
      · exact h.elim
    · exact h.elim

/-- The blocks behind the names of a pattern. -/
def namesOf (m : Nat) (r : Nm) (β : List Nat) : List Nat := (List.range m).map fun i => match findN i r with
  | some j => blk β j
  | none => 0
theorem namesOf_length (m : Nat) (r : Nm) (β : List Nat) : (namesOf m r β).length = m := by simp [namesOf]
theorem namesOf_blk {r : Nm} {β : List Nat} {i j : Nat} (hi : i < m) (h : findN i r = some j) : blk (namesOf m r β) i = blk β j := by
  simp [blk, namesOf, hi, h]
theorem namesOf_agree {r : Nm} {β : List Nat} {n : Nat} (hok : NmOk m n r) : Agree r (namesOf m r β) β := fun i j h => namesOf_blk (hok i j h).1 h

def fpOf (hs : List (Nat × SObj)) (r : Nm) : List Nat := hs.map fun e => (findN e.1 r).getD 0

/-- What a match of a state says. -/
theorem mState_sound {F : Fr} {β : List Nat} {hp : Hp} {w : World} (hS : Sat F β hp w) {ps as : List SV} {hs : List (Nat × SObj)} {G : Nat → Option Obj} {r : Nm} {K : Nm → Prop}
    (h : mState m ps as hs G hp r K) (hr : NmOk m β.length r) (hw : ∀ b ∈ as, b.wf β.length) :
    ∃ r', K r' ∧ Le r r' ∧ NmOk m β.length r' ∧ injB r' = true ∧ ps.map (SV.val (namesOf m r' β)) = as.map (SV.val β) ∧ (∀ a ∈ ps, a.one = true ∧ a.wf m) ∧
      Sat (F.off β hp (fpOf hs r') w) (namesOf m r' β) ⟨m, heapOf hs, [], G⟩ w := by
  obtain ⟨r1, h1, h2, h3, h4, h5⟩ := mArgs_sound ps as r _ h
  obtain ⟨r2, g1, g2, g3, g4⟩ := mHeap_sound hs hp.H r1 _ h1
  cases hi : injB r2 <;> rw [hi] at g1
  · exact g1.elim
  · obtain ⟨hsub, hK⟩ := g1
    have hok1 := h3 _ hw hr
    have hok2 := g3 β.length (fun j o ho => (hS.own j o ho).2.1) hok1
    have hA := namesOf_agree (β := β) hok2
    refine ⟨r2, hK, h2.trans g2, hok2, hi, h4 β _ (Agree.le g2 hA) hw, h5 _ hw hok1, ?_⟩
    have := Sat.part (fp := fpOf hs r2) (βp := namesOf m r2 β) (Hp0 := heapOf hs) (Gp := G) hS hsub (fun i => (findN i r2).getD 0) ?_ ?_
    · rwa [namesOf_length] at this
    · intro i o ho
      have hm := mem_heapOf ho
      obtain ⟨j, o', e1, e2, e3, e4⟩ := g4 (i, o) hm
      have hwo := (hS.own j o' e2).2.1
      rw [namesOf_length]
      refine ⟨(hok2 _ _ e1).1, e4 _ hwo hok2, List.mem_map.2 ⟨(i, o), hm, rfl⟩, o', ?_, ?_, e3 β _ hA hwo⟩
      · simp only [e1, Option.getD_some]; exact e2
      · simp only [e1, Option.getD_some]; exact hA _ _ e1
    · intro i o i' o' ho ho' hne
      obtain ⟨j, _, e1, _⟩ := g4 (i, o) (mem_heapOf ho)
      obtain ⟨j', _, e1', _⟩ := g4 (i', o') (mem_heapOf ho')
      simp only [e1, e1', Option.getD_some]
      intro e
      subst e
      exact hne (injB_sound hi e1 e1')

theorem Sat.unoff {F : Fr} {β : List Nat} {hp : Hp} {w : World} {fp : List Nat} (hS : Sat F β hp w) {βq : List Nat} {q : Hp} {w' : World} (h : Sat (F.off β hp fp w) βq q w') : Sat F βq q w' := by
  have hF : ∀ b o, F.h b = some o → (F.off β hp fp w).h b = some o := fun b o hb => by
    rcases off_cases (fp := fp) hS (b := b) with ⟨j, oj, hj, hoj, hb', hno⟩ | he
    · exact absurd (.inl hb) (hno o)
    · rw [he]; exact hb
  refine ⟨h.n, h.outer, fun b o hb => h.ext b o (hb.imp (hF b o) id), fun i o ho => ?_, h.apart, h.ro, fun b o hb => ?_⟩
  · obtain ⟨g1, g2, g3, g4⟩ := h.own i o ho
    exact ⟨g1, g2, fun x hx => g3 x (hx.imp (hF _ x) id), g4⟩
  · have h1 := h.disj b o hb
    cases hF' : F.h b with
    | none => rfl
    | some x => rw [hF b x hF'] at h1; cases h1

/-- The real names: what a pattern's first ones stand for; new ones behind all others. -/
def real (f n : Nat) (r : Nm) (i : Nat) : Nat := bif Nat.blt i f then (findN i r).getD 0 else n + (i - f)
def allN (f : Nat) (r : Nm) : Bool := (List.range f).all fun i => (findN i r).isSome
theorem real_means {f : Nat} {r : Nm} {β δ : List Nat} (hf : f ≤ δ.length) (hall : allN f r = true) (hok : NmOk m β.length r) (hA : ∀ i j, i < f → findN i r = some j → blk δ i = blk β j) :
    Means (real f β.length r) δ (β ++ δ.drop f) := by
  intro i hi
  unfold real
  by_cases h : i < f
  · rw [blt_of h, cond_true]
    have := (List.all_eq_true.1 hall) i (List.mem_range.2 h)
    cases hj : findN i r with
    | none => rw [hj] at this; cases this
    | some j =>
      have h2 := (hok i j hj).2
      simp only [Option.getD_some]
      refine ⟨by simp; omega, ?_⟩
      rw [blk_append h2, hA i j h hj]
  · rw [blt_not (by omega), cond_false]
    refine ⟨by simp; omega, ?_⟩
    unfold blk
    rw [List.getElem?_append_right (by omega), show β.length + (i - f) - β.length = i - f by omega, List.getElem?_drop, show f + (i - f) = i by omega]
end
end Vx
