/- What this text proves, part by part: copy; maps that are looked into and written. One operation of a region, on symbolic values. Regions: in the order of the text, and in whatever order is drawn. Operations that leave all memory as it was: whatever their operands are. No condition is added. -/
import Derived.Deep.Quiet
import Derived.StillTail
import Derived.Test.YtafngdeeachggaaGreatFrames01
import Derived.Test.YtafngdeeachggaaGreatFrames02
set_option linter.unusedVariables false
set_option linter.unusedSimpArgs false
section
/- copy; maps that are looked into and written. -/
namespace Vx
open Go

def minN (a b : NE) : NE :=
  match a, b with
  | .lit x, .lit y => .lit (bif Nat.ble x y then x else y)
  | a, b => .v (Nat.min a.den b.den)
theorem minN_den (a b : NE) : (minN a b).den = Nat.min a.den b.den := by
  unfold minN
  split
  · rename_i x y
    cases hb : Nat.ble x y
    · have : ¬ x ≤ y := fun h' => by rw [Nat.ble_eq_true_of_le h'] at hb; cases hb
      simp only [NE.den, cond_false]
      show y = min x y
      omega
    · have := Nat.le_of_ble_eq_true hb
      simp only [NE.den, cond_true]
      show x = min x y
      omega
  · rfl

/-- Cells put into a row one by one. -/
def rowSets : SV → Nat → SV → (SV → Prop) → Prop
  | l, _, .nil, K => K l
  | l, o, .cons h t, K => bif h.one then rowSet l o none h fun l' => rowSets l' (o + 1) t K else False
  | _, _, _, _ => False

section
variable {P : Program} {F : Fr} {β : List Nat} {hp : Hp} {w : World} {zt : List (TypeId × SV)} {K : SV → Hp → Prop}

theorem rowSets_sound : ∀ (r l : SV) (o : Nat) (K : SV → Prop), l.wf β.length → r.wf β.length → rowSets l o r K →
    ∃ l' pre old post, K l' ∧ l'.wf β.length ∧ l.vals β = pre ++ old ++ post ∧ l'.vals β = pre ++ r.vals β ++ post ∧ pre.length = min o (l.vals β).length ∧ old.length = (r.vals β).length := by
  intro r
  induction r with
  | nil =>
    intro l o K hl _ h
    exact ⟨l, (l.vals β).take o, [], (l.vals β).drop o, h, hl, by simp, by simp [SV.vals], by simp, rfl⟩
  | cons a t _ iht =>
    intro l o K hl hr h
    simp only [rowSets] at h
    cases h1 : a.one <;> rw [h1] at h
    · exact h.elim
    · obtain ⟨l1, k1, k2, k3, k4⟩ := rowSet_sound β a h1 hr.1 l o none _ hl h
      simp only [iD, Option.getD_none, Nat.add_zero] at k3 k4
      obtain ⟨l', pre, old, post, hK, hw, e1, e2, e3, e4⟩ := iht l1 (o + 1) K k2 hr.2 k1
      have hlen1 : (l1.vals β).length = (l.vals β).length := by rw [k3]; simp
      rw [hlen1] at e3
      have hpre : pre.length = o + 1 := by rw [e3]; omega
      have hall : l.vals β = (l.vals β).take o ++ [(l.vals β)[o]] ++ (l.vals β).drop (o + 1) := by
        rw [List.append_assoc, List.singleton_append, List.getElem_cons_drop, List.take_append_drop]
      have h5 : l1.vals β = (l.vals β).take o ++ [a.val β] ++ (l.vals β).drop (o + 1) := by
        rw [k3, List.set_eq_take_append_cons_drop]; simp [k4]
      have h6 : pre = (l.vals β).take o ++ [a.val β] ∧ old ++ post = (l.vals β).drop (o + 1) := by
        have : pre ++ (old ++ post) = ((l.vals β).take o ++ [a.val β]) ++ (l.vals β).drop (o + 1) := by rw [← h5, e1]; simp
        exact List.append_inj this (by simp; omega)
      refine ⟨l', (l.vals β).take o, [(l.vals β)[o]] ++ old, post, hK, hw, ?_, ?_, by simp, ?_⟩
      · conv => lhs; rw [hall, ← h6.2]
        simp only [List.append_assoc]
      · rw [e2, h6.1, SV.vals, SV.vals_one β h1]; simp only [List.append_assoc]
      · rw [SV.vals, SV.vals_one β h1]; simp [e4]
  | _ => intro l o K _ _ h; exact h.elim

/-- Some cells of a row over others, by whichever way serves. -/
def copyOver (l r : SV) (o n : NE) (K : SV → Prop) : Prop :=
  match o, n with
  | .lit o, .lit n => (match rowCut r n with
    | some (r1, _) => (match (match rowCut l o with
        | some (p, q) => (match rowCut q n with
          | some (_, s) => some (p.app (r1.app s))
          | none => none)
        | none => none) with
      | some l' => K l'
      | none => rowSets l o r1 K)
    | none => False)
  | o, n => (match l, r with
    | .cons (.run k m xs) t, .cons (.run k' _ ys) .nil => bif decide (k = k') then
        leN (addN o n) m <| ∀ zs : List Int, zs = xs.den.take o.den ++ ys.den.take n.den ++ xs.den.drop (o.den + n.den) → K (.cons (.run k m (.list zs)) t)
      else False
    | _, _ => False)

theorem copyOver_sound {l r : SV} {o n : NE} {K : SV → Prop} (hl : l.wf β.length) (hr : r.wf β.length) (hn : n.den ≤ (r.vals β).length) (ho : o.den ≤ (l.vals β).length) (h : copyOver l r o n K) :
    ∃ l' pre old post, K l' ∧ l'.wf β.length ∧ l.vals β = pre ++ old ++ post ∧ l'.vals β = pre ++ (r.vals β).take n.den ++ post ∧ pre.length = o.den ∧ old.length = n.den := by
  unfold copyOver at h
  split at h
  · rename_i o n
    split at h
    · rename_i r1 r2 hrc
      obtain ⟨a1, a2, a3, a4⟩ := rowCut_sound β r n _ _ hr hrc
      have htake : (r.vals β).take n = r1.vals β := by rw [a1]; simp [← a2]
      simp only [NE.den] at *
      rw [htake]
      split at h
      · rename_i l' hc
        split at hc
        · rename_i p q hpq
          split at hc
          · rename_i m s hms
            cases hc
            obtain ⟨e1, e2, e3, e4⟩ := rowCut_sound β l o _ _ hl hpq
            obtain ⟨f1, f2, f3, f4⟩ := rowCut_sound β q n _ _ e4 hms
            exact ⟨_, p.vals β, m.vals β, s.vals β, h, SV.app_wf _ _ _ e3 (SV.app_wf _ _ _ a3 f4), by rw [e1, f1]; simp, by simp [SV.app_vals], e2, f2⟩
          · cases hc
        · cases hc
      · obtain ⟨l', pre, old, post, g1, g2, g3, g4, g5, g6⟩ := rowSets_sound r1 l o K hl a3 h
        exact ⟨l', pre, old, post, g1, g2, g3, g4, by omega, by omega⟩
    · exact h.elim
  · split at h
    · rename_i k m xs t k' m' ys
      cases hd : decide (k = k') <;> rw [hd] at h
      · exact h.elim
      · have := of_decide_eq_true hd
        subst this
        obtain ⟨hle, h⟩ := leN_sound h
        rw [addN_den] at hle
        have h1 : xs.den.length = m.den := hl.1
        have h2 : ys.den.length = m'.den := hr.1
        have h3 : n.den ≤ ys.den.length := by simpa [SV.vals] using hn
        refine ⟨_, (xs.den.take o.den).map (.int k), ((xs.den.drop o.den).take n.den).map (.int k), (xs.den.drop (o.den + n.den)).map (.int k) ++ t.vals β, h _ rfl, ⟨?_, hl.2⟩, ?_, ?_, ?_, ?_⟩
        · show (xs.den.take o.den ++ ys.den.take n.den ++ xs.den.drop (o.den + n.den)).length = m.den
          simp; omega
        · show xs.den.map (Value.int k) ++ t.vals β = _
          have : xs.den = xs.den.take o.den ++ ((xs.den.drop o.den).take n.den ++ xs.den.drop (o.den + n.den)) := by
            rw [← List.drop_drop, List.take_append_drop, List.take_append_drop]
          conv => lhs; rw [this]
          simp
        · show (xs.den.take o.den ++ ys.den.take n.den ++ xs.den.drop (o.den + n.den)).map (Value.int k) ++ t.vals β = _
          simp [SV.vals, List.map_take]
        · simp; omega
        · simp; omega
    · exact h.elim

def xCopy (P : Program) (t tx : TypeId) (d x : SV) (hp : Hp) (K : SV → Hp → Prop) : Prop :=
  match P.underlying t with
  | some (.slice el) => (match P.info? el with
    | some inf => bif Nat.beq inf.size 1 then xSrc P tx 1 x hp fun r m => (match d with
      | .nilslice => K (.int .i64 (.lit 0)) hp
      | .slice id off len _ => (match ownRow id hp with
        | some (l, e, z) => leN (offN off) l.widN <| copyOver l r (offN off) (minN m len) fun l' => K (.int .i64 (minN m len).i) { hp with H := setH id (.cells l' e z) hp.H }
        | none => False)
      | _ => False) else False
    | none => False)
  | _ => False

theorem xCopy_sound (hS : Sat F β hp w) {t tx ty : TypeId} {d x : SV} (h : xCopy P t tx d x hp K) : Runs P F β w (Builtin.copy_ #[t, tx] ty #[d.val β, x.val β]) K := by
  unfold xCopy at h
  split at h
  · rename_i el hd
    split at h
    · rename_i inf hinf
      cases hb : Nat.beq inf.size 1 <;> rw [hb] at h
      · exact h.elim
      · have hsz := beq_t hb
        simp only [cond_true] at h
        obtain ⟨r, m, h, hsrc⟩ := xSrc_sound hS h
        have hlen := hsrc.src.len w
        have hnl := hsrc.src.newsLen
        split at h
        · refine runs_pure hS (sv := .int .i64 (.lit 0)) (v := .int .i64 0) ?_ rfl trivial rfl h
          have hp0 := hsrc.part 0 (Nat.zero_le _)
          show (Builtin.copy_ #[t, tx] ty #[.slice none 0 0, x.val β]).run P w = _
          simp [Builtin.copy_, run_underlying hd, hlen, Go.sizeOf, typeInfo, hinf, hsz, hp0, goInt]
        · rename_i id off len cap _
          split at h
          · rename_i l e z hg
            have hown := ownRow_get hg
            obtain ⟨g1, g2, g3⟩ := hS.row (ownRow_row hg)
            obtain ⟨c1, h⟩ := leN_sound h
            rw [offN_den, ← SV.widN_len (β := β) l g2] at c1
            have hmin := minN_den m len
            have hmle : (minN m len).den ≤ m.den := by rw [hmin]; exact Nat.min_le_left _ _
            obtain ⟨l', pre, old, post, hK, k1, k2, k3, k4, k5⟩ := copyOver_sound g2 hsrc.wf (n := minN m len) (by omega) (by rw [offN_den]; exact c1) h
            rw [offN_den] at k4
            have hpart := hsrc.part (minN m len).den hmle
            rw [Nat.mul_one] at hpart
            rw [k2] at g3
            obtain ⟨w', r1, r2, r3, r4⟩ := run_storeCells_row (P := P) ((r.vals β).take (minN m len).den) 0 w (blk β id) off.den e pre old post z g3 (by omega) (by rw [k5, List.length_take]; omega)
              (fun v hv => hsrc.cells v (List.mem_of_mem_take hv))
            rw [← k3] at r2
            refine ⟨.int .i64 (minN m len).den, w', ?_, [], .int .i64 (minN m len).i, _, by simpa using hS.set hown (o' := .cells l' e z) k1 r4 r2 r3, rfl, trivial, by simp [SV.val, SV.vals, NE.i_den], hK⟩
            show (Builtin.copy_ #[t, tx] ty #[.slice (some ⟨blk β id, off.den, none⟩) len.den cap.den, x.val β]).run P w = _
            simp [Builtin.copy_, run_underlying hd, hlen, Go.sizeOf, typeInfo, hinf, hsz, ← hmin, hpart, r1, goInt]
          · exact h.elim
        · exact h.elim
    · exact h.elim
  · exact h.elim

/-! ### Maps -/

/-- Are two keys alike? A literal answer, or one that is told by a Bool. -/
def keyEq (kd : TypeDesc) (a b : SV) : Option BE :=
  match kd, a, b with
  | .int _, .int k x, .int k' y => bif decide (k = k') then (match x, y with
      | .lit x, .lit y => some (.lit (x == y))
      | x, y => some (.v (x.den == y.den))) else none
  | _, _, _ => none
theorem keyEq_sound {kd : TypeDesc} {a b : SV} {e : BE} (h : keyEq kd a b = some e) : Instr.sameNow kd (a.val β) (b.val β) = some e.den ∧ (e.den = true → a.val β = b.val β ∧ (∀ n, Instr.sameBits n (b.val β) (a.val β) = true)) := by
  unfold keyEq at h
  split at h
  · rename_i kk k x k' y
    cases hd : decide (k = k') <;> rw [hd] at h
    · cases h
    · have := of_decide_eq_true hd
      subst this
      simp only [cond_true] at h
      have hval : ∀ e : BE, e.den = (x.den == y.den) → Instr.sameNow (.int kk) ((SV.int k x).val β) ((SV.int k y).val β) = some e.den ∧ (e.den = true → (SV.int k x).val β = (SV.int k y).val β ∧ (∀ n, Instr.sameBits n ((SV.int k y).val β) ((SV.int k x).val β) = true)) := by
        intro e he
        refine ⟨by simp [val_int, Instr.sameNow, he], fun ht => ?_⟩
        rw [he] at ht
        have : x.den = y.den := by simpa using ht
        refine ⟨by simp [val_int, this], fun n => by cases n <;> simp [val_int, Instr.sameBits, this]⟩
      split at h <;> cases h <;> exact hval _ rfl
  · cases h

/-- Looks for a key: where it is found, with what; or that it is not. -/
def findK (kd : TypeDesc) (key : SV) : List (SV × SV × Nat) → Nat → (Nat → SV → Prop) → Prop → Prop
  | [], _, _, no => no
  | (k, v, _) :: r, i, yes, no =>
    match keyEq kd key k with
    | some (.lit true) => yes i v
    | some (.lit false) => findK kd key r (i + 1) yes no
    | some (.v b) => (b = true → yes i v) ∧ (b = false → findK kd key r (i + 1) yes no)
    | none => False

theorem findK_sound {kd : TypeDesc} {key : SV} : ∀ (es : List (SV × SV × Nat)) (i : Nat) (yes : Nat → SV → Prop) (no : Prop), findK kd key es i yes no →
    (Instr.findNow kd (key.val β) (es.map (entD β)) i = some none ∧ no) ∨
    (∃ j e, es[j]? = some e ∧ yes (i + j) e.2.1 ∧ Instr.findNow kd (key.val β) (es.map (entD β)) i = some (some (i + j, e.2.1.val β)) ∧ (key.val β = e.1.val β ∧ ∀ n, Instr.sameBits n (e.1.val β) (key.val β) = true))
  | [], i, yes, no, h => .inl ⟨rfl, h⟩
  | (k, v, c) :: r, i, yes, no, h => by
    simp only [findK] at h
    have found : ∀ e : BE, keyEq kd key k = some e → e.den = true → yes i v →
        (∃ j e, ((k, v, c) :: r)[j]? = some e ∧ yes (i + j) e.2.1 ∧ Instr.findNow kd (key.val β) (((k, v, c) :: r).map (entD β)) i = some (some (i + j, e.2.1.val β)) ∧ (key.val β = e.1.val β ∧ ∀ n, Instr.sameBits n (e.1.val β) (key.val β) = true)) := by
      intro e he hd hy
      obtain ⟨h1, h2⟩ := keyEq_sound (β := β) he
      exact ⟨0, _, rfl, hy, by simp [Instr.findNow, entD, h1, hd], h2 hd⟩
    have next : ∀ e : BE, keyEq kd key k = some e → e.den = false → findK kd key r (i + 1) yes no → _ := fun e he hd hr => by
      obtain ⟨h1, _⟩ := keyEq_sound (β := β) he
      have hstep : Instr.findNow kd (key.val β) (((k, v, c) :: r).map (entD β)) i = Instr.findNow kd (key.val β) (r.map (entD β)) (i + 1) := by simp [Instr.findNow, entD, h1, hd]
      have := findK_sound r (i + 1) yes no hr
      rw [← hstep] at this
      exact (this.imp (fun h => h) (fun ⟨j, e, g1, g2, g3, g4⟩ => ⟨j + 1, e, by simpa using g1, by rw [show i + (j + 1) = i + 1 + j from by omega]; exact g2, by rw [g3, show i + (j + 1) = i + 1 + j from by omega], g4⟩) :
        (Instr.findNow kd (key.val β) (((k, v, c) :: r).map (entD β)) i = some none ∧ no) ∨ (∃ j e, ((k, v, c) :: r)[j]? = some e ∧ yes (i + j) e.2.1 ∧ Instr.findNow kd (key.val β) (((k, v, c) :: r).map (entD β)) i = some (some (i + j, e.2.1.val β)) ∧ (key.val β = e.1.val β ∧ ∀ n, Instr.sameBits n (e.1.val β) (key.val β) = true)))
    split at h
    · rename_i hk
      exact .inr (found _ hk rfl h)
    · rename_i hk
      exact next _ hk rfl h
    · rename_i b hk
      cases hb : b
      · exact next _ hk hb (h.2 hb)
      · exact .inr (found _ hk hb (h.1 hb))
    · exact h.elim

def keyD (d : TypeDesc) : Bool :=
  match d with
  | .int _ => true
  | _ => false
theorem run_checkKey {kd : TypeDesc} {t : TypeId} (h : P.underlying t = some kd) (hk : keyD kd = true) (b : Bool) (v : Value) (w : World) : (Instr.checkKey b 10000 t v).run P w = .ok () w := by
  suffices key : ∀ n, (Instr.checkKey b (n + 1) t v).run P w = .ok () w from key 9999
  intro n
  simp only [Instr.checkKey, Sem.run_bind, run_underlying h, Result.andThen_ok]
  cases kd <;> first | rfl | cases hk

def zval (P : Program) (zt : List (TypeId × SV)) (t : TypeId) : Option SV :=
  match tyOf P t, zrow P zt t with
  | some (true, _), some r => some (.agg r)
  | some (false, _), _ => (match P.info? t with
    | some i => i.zero.map ofV
    | none => none)
  | _, _ => none

/-- Is the zero value of a struct or an array one of cells? -/
def aggZ (P : Program) (t : TypeId) : Bool :=
  match P.info? t with
  | some i => (match i.zero with
    | some (.agg _) => true
    | _ => false)
  | none => false
def zvalK (P : Program) (zt : List (TypeId × SV)) (t : TypeId) : Option SV :=
  match P.info? t with
  | some i => (match i.zero with
    | some (.agg _) => (zrow P zt t).map .agg
    | some z => some (ofV z)
    | none => none)
  | none => none
theorem zvalK_sound (hz : ZOk P zt) {t : TypeId} {x : SV} (h : zvalK P zt t = some x) : x.one = true ∧ x.wf β.length ∧ ∀ w, (zeroValue t).run P w = .ok (x.val β) w := by
  unfold zvalK at h
  split at h
  · rename_i i hi
    split at h
    · rename_i cs hc
      cases hr : zrow P zt t with
      | none => rw [hr] at h; cases h
      | some r =>
        rw [hr] at h
        cases h
        obtain ⟨i', z, hi', hzz, h1, h2⟩ := zrow_sound (β := β) hz hr
        obtain rfl : i = i' := by rw [hi] at hi'; exact Option.some.inj hi'
        obtain rfl : z = .agg cs := by rw [hc] at hzz; exact (Option.some.inj hzz).symm
        refine ⟨rfl, h1, fun w => ?_⟩
        rw [run_zeroValue hi hc]
        simp [SV.val, SV.vals, h2, Value.cells]
    · rename_i z hc
      cases h
      exact ⟨ofV_one _, ofV_wf _ _, fun w => by rw [run_zeroValue hi hc, ofV_val]⟩
    · cases h
  · cases h

/-- The block under a key. -/
def findP (key : Int) : List PE → Option Nat
  | [] => none
  | e :: r => if key = e.key then some e.b else findP key r
/-- Another block under a key. -/
def putP (key : Int) (a c : Nat) : List PE → List PE
  | [] => [⟨key, a, c⟩]
  | e :: r => if key = e.key then ⟨key, a, e.s⟩ :: r else e :: putP key a c r
def putC (key : Int) (c : Nat) (ps : List PE) : Nat := match findP key ps with
  | none => c + 1
  | some _ => c
def idxP (key : Int) : List PE → Nat → Nat
  | [], i => i
  | e :: r, i => if key = e.key then i else idxP key r (i + 1)
theorem idxP_ge (key : Int) : ∀ (ps : List PE) (i : Nat), i ≤ idxP key ps i
  | [], i => Nat.le_refl i
  | e :: r, i => by
    simp only [idxP]
    split
    · exact Nat.le_refl i
    · have := idxP_ge key r (i + 1); omega
theorem findNow_p (kk k : IntKind) (key : Int) : ∀ (ps : List PE) (i : Nat), Instr.findNow (.int kk) (.int k key) (ps.map (peD k)) i =
    some ((findP key ps).map fun b => (idxP key ps i, .pointer (some ⟨b, 0, none⟩)))
  | [], i => rfl
  | e :: r, i => by
    simp only [List.map_cons, Instr.findNow, peD, Instr.sameNow, if_true, findP, idxP]
    by_cases h : key = e.key
    · simp [h]
    · simp only [h, beq_iff_eq, if_false]
      have h' : (key == e.key) = false := by simp [h]
      rw [h']
      exact findNow_p kk k key r (i + 1)
theorem putP_none {key : Int} {a c : Nat} : ∀ {ps : List PE}, findP key ps = none → putP key a c ps = ps ++ [⟨key, a, c⟩]
  | [], _ => rfl
  | e :: r, h => by
    simp only [findP] at h
    by_cases he : key = e.key
    · rw [if_pos he] at h; cases h
    · rw [if_neg he] at h
      simp only [putP, he, if_false, List.cons_append]
      rw [putP_none h]
theorem idxP_succ (key : Int) : ∀ (ps : List PE) (i : Nat), idxP key ps (i + 1) = idxP key ps i + 1
  | [], _ => rfl
  | e :: r, i => by
    simp only [idxP]
    split
    · rfl
    · exact idxP_succ key r (i + 1)
theorem putP_some {k : IntKind} {key : Int} {a c b : Nat} : ∀ {ps : List PE}, findP key ps = some b →
    ((ps.map (peD k)).modify (idxP key ps 0) fun e => { e with key := .int k key, val := .pointer (some ⟨a, 0, none⟩) }) = (putP key a c ps).map (peD k)
  | e :: r, h => by
    simp only [findP] at h
    by_cases he : key = e.key
    · subst he
      simp [idxP, putP, peD, List.modify]
    · rw [if_neg he] at h
      simp only [idxP, putP, he, if_false, List.map_cons, idxP_succ]
      rw [List.modify_succ_cons, putP_some h]
theorem idxP_at {k : IntKind} {key : Int} {b : Nat} : ∀ {ps : List PE}, findP key ps = some b → ∃ e ∈ ps, ps[idxP key ps 0]? = some e ∧ e.key = key
  | e :: r, h => by
    simp only [findP] at h
    by_cases he : key = e.key
    · exact ⟨e, List.mem_cons_self, by simp [idxP, he], he.symm⟩
    · rw [if_neg he] at h
      obtain ⟨x, h1, h2, h3⟩ := idxP_at (k := k) h
      refine ⟨x, List.mem_cons_of_mem _ h1, ?_, h3⟩
      simp only [idxP, he, if_false, idxP_succ]
      exact h2

def tupOk (v : SV) (ok : Bool) (commaOk : Bool) : SV := bif commaOk then .tup (.cons v (.cons (.bool (.lit ok)) .nil)) else v

def xLookup (P : Program) (zt : List (TypeId × SV)) (t : TypeId) (m key : SV) (commaOk : Bool) (hp : Hp) (K : SV → Prop) : Prop :=
  match P.underlying t with
  | some (.map kt vt) => (match P.underlying kt with
    | some kd => bif keyD kd then (match zvalK P zt vt with
      | some z => (match m with
        | .nilmap => K (tupOk z false commaOk)
        | .map id => (match getB id hp with
          | some (.map es _) => findK kd key es 0 (fun _ v => bif v.one then K (tupOk v true commaOk) else False) (K (tupOk z false commaOk))
          | some (.pmap k ps _) => (match key with
            | .int k' e => bif decide (k = k') then (∀ b : Nat, findP e.den ps = some b → K (tupOk (.gptr b 0) true commaOk)) ∧ (findP e.den ps = none → K (tupOk z false commaOk)) else False
            | _ => False)
          | _ => False)
        | _ => False)
      | none => False) else False
    | none => False)
  | _ => False
theorem xLookup_sound (hz : ZOk P zt) (hS : Sat F β hp w) {t : TypeId} {m key : SV} {commaOk : Bool} {K : SV → Prop} (h : xLookup P zt t m key commaOk hp K) :
    ∃ sv, K sv ∧ sv.one = true ∧ sv.wf β.length ∧ ∀ w', Sat F β hp w' → (Instr.lookup t (m.val β) (key.val β) commaOk).run P w' = .ok (sv.val β) w' := by
  unfold xLookup at h
  split at h
  · rename_i kt vt hd
    split at h
    · rename_i kd hkd
      cases hk : keyD kd <;> rw [hk] at h
      · exact h.elim
      · simp only [cond_true] at h
        split at h
        · rename_i z hzv
          obtain ⟨z1, z2, z3⟩ := zvalK_sound (β := β) hz hzv
          have tup : ∀ (v : SV) (ok : Bool), v.one = true → v.wf β.length → (tupOk v ok commaOk).one = true ∧ (tupOk v ok commaOk).wf β.length ∧ (tupOk v ok commaOk).val β = (if commaOk then .tuple #[v.val β, .bool ok] else v.val β) := by
            intro v ok h1 h2
            cases commaOk
            · exact ⟨h1, h2, rfl⟩
            · refine ⟨rfl, ⟨h2, trivial, trivial⟩, ?_⟩
              show Value.tuple ((v.vals β ++ ([Value.bool ok] ++ [])).toArray) = _
              rw [SV.vals_one β h1]; rfl
          split at h
          · obtain ⟨t1, t2, t3⟩ := tup z false z1 z2
            refine ⟨_, h, t1, t2, fun w' hS' => ?_⟩
            rw [t3]
            show (Instr.lookup t (.map none) (key.val β) commaOk).run P w' = _
            simp [Instr.lookup, run_underlying hd, run_checkKey hkd hk, Instr.findKey, run_underlying hkd, Instr.findNow, z3]
          · rename_i id
            split at h
            · rename_i es c hg
              obtain ⟨g1, g2, _⟩ := hS.get hg
              rcases findK_sound (β := β) es 0 _ _ h with ⟨hf, hK⟩ | ⟨j, e, hj, hy, hf, _⟩
              · obtain ⟨t1, t2, t3⟩ := tup z false z1 z2
                refine ⟨_, hK, t1, t2, fun w' hS' => ?_⟩
                obtain ⟨_, _, g3⟩ := hS'.get hg
                simp only [SObj.den] at g3
                rw [t3]
                show (Instr.lookup t (.map (some (blk β id))) (key.val β) commaOk).run P w' = _
                simp [Instr.lookup, run_underlying hd, run_checkKey hkd hk, Instr.findKey, run_underlying hkd, getObj, Sem.run, g3, hf, z3]
              · cases h1 : e.2.1.one <;> rw [h1] at hy
                · exact hy.elim
                · have hw := g2 e (List.mem_of_getElem? hj)
                  obtain ⟨t1, t2, t3⟩ := tup e.2.1 true h1 hw.2
                  refine ⟨_, hy, t1, t2, fun w' hS' => ?_⟩
                  obtain ⟨_, _, g3⟩ := hS'.get hg
                  simp only [SObj.den] at g3
                  rw [t3]
                  show (Instr.lookup t (.map (some (blk β id))) (key.val β) commaOk).run P w' = _
                  simp [Instr.lookup, run_underlying hd, run_checkKey hkd hk, Instr.findKey, run_underlying hkd, getObj, Sem.run, g3, hf]
            · rename_i k ps c hg
              split at h
              · rename_i k' e
                cases hkk : decide (k = k') <;> rw [hkk] at h
                · exact h.elim
                · have := of_decide_eq_true hkk
                  subst this
                  obtain ⟨hy, hn⟩ := h
                  obtain ⟨kk, rfl⟩ : ∃ kk, kd = .int kk := by cases kd <;> first | exact ⟨_, rfl⟩ | cases hk
                  have hf := findNow_p kk k e.den ps 0
                  cases hfp : findP e.den ps with
                  | none =>
                    obtain ⟨t1, t2, t3⟩ := tup z false z1 z2
                    refine ⟨_, hn hfp, t1, t2, fun w' hS' => ?_⟩
                    obtain ⟨_, _, g3⟩ := hS'.get hg
                    simp only [SObj.den] at g3
                    rw [hfp] at hf
                    rw [t3]
                    show (Instr.lookup t (.map (some (blk β id))) (.int k e.den) commaOk).run P w' = _
                    simp [Instr.lookup, run_underlying hd, run_checkKey hkd hk, Instr.findKey, run_underlying hkd, getObj, Sem.run, g3, hf, z3]
                  | some b =>
                    obtain ⟨t1, t2, t3⟩ := tup (.gptr b 0) true rfl trivial
                    refine ⟨_, hy b hfp, t1, t2, fun w' hS' => ?_⟩
                    obtain ⟨_, _, g3⟩ := hS'.get hg
                    simp only [SObj.den] at g3
                    rw [hfp] at hf
                    rw [t3]
                    show (Instr.lookup t (.map (some (blk β id))) (.int k e.den) commaOk).run P w' = _
                    simp [Instr.lookup, run_underlying hd, run_checkKey hkd hk, Instr.findKey, run_underlying hkd, getObj, Sem.run, g3, hf, SV.val, SV.vals]
              · exact h.elim
            · exact h.elim
          · exact h.elim
        · exact h.elim
    · exact h.elim
  · exact h.elim

def ownMap (id : Nat) (hp : Hp) : Option (List (SV × SV × Nat) × Nat) :=
  match getH id hp.H with
  | some (.map es c) => some (es, c)
  | _ => none
theorem ownMap_get {id : Nat} {es : List (SV × SV × Nat)} {c : Nat} (hg : ownMap id hp = some (es, c)) : getH id hp.H = some (.map es c) := by
  unfold ownMap at hg
  split at hg
  · rename_i es' c' hb
    cases hg
    exact hb
  · cases hg

def ownPm (id : Nat) (hp : Hp) : Option (IntKind × List PE × Nat) :=
  match getH id hp.H with
  | some (.pmap k ps c) => some (k, ps, c)
  | _ => none
theorem ownPm_get {id : Nat} {k : IntKind} {ps : List PE} {c : Nat} (hg : ownPm id hp = some (k, ps, c)) : getH id hp.H = some (.pmap k ps c) := by
  unfold ownPm at hg
  split at hg
  · rename_i b
    cases hg
    exact b
  · cases hg
/-- A block of numbers. -/
def realRow (id : Nat) (hp : Hp) : Option Obj :=
  match getH id hp.H with
  | some (.cells (.cons (.run k _ xs) .nil) e false) => some (.cells (xs.den.map (.int k)).toArray e (0, 0))
  | _ => none
theorem realRow_get {id : Nat} {o : Obj} (h : realRow id hp = some o) : ∃ l e, getH id hp.H = some (.cells l e false) ∧ ∀ β, o = (SObj.cells l e false).den β := by
  unfold realRow at h
  split at h
  · rename_i hb
    cases h
    exact ⟨_, _, hb, fun β => by simp [SObj.den, SV.vals, fzOf]⟩
  · cases h
def _root_.Vx.Off.is0 : Off → Bool
  | .lit o => Nat.beq o 0
  | .at _ _ => false
/-- A block under a key of a map whose blocks are known by their real addresses: from now on this one is, too. -/
def xPmUpdate (id : Nat) (key v : SV) (hp : Hp) (K : Hp → Prop) : Prop :=
  match ownPm id hp, key, v with
  | some (k, ps, c), .int k' e, .ptr j off => bif decide (k = k') && off.is0 then (match realRow j hp with
      | some o => ∀ a : Nat, hp.G a = none → K { hp with H := setH id (.pmap k (putP e.den a c ps) (putC e.den c ps)) (delH j hp.H), R := (j, a) :: hp.R, G := addG a o hp.G }
      | none => False) else False
  | _, _, _ => False
theorem xPmUpdate_sound (hS : Sat F β hp w) {t kt vt : TypeId} {kd : TypeDesc} (hd : P.underlying t = some (.map kt vt)) (hkd : P.underlying kt = some kd) (hk : keyD kd = true) {id : Nat} {key v : SV} {K : Hp → Prop} (h : xPmUpdate id key v hp K) :
    ∃ hp' w', (Instr.mapUpdate t ((SV.map id).val β) (key.val β) (v.val β)).run P w = .ok () w' ∧ Sat F β hp' w' ∧ K hp' := by
  unfold xPmUpdate at h
  split at h
  · rename_i k ps c k' e j off hg
    cases hb : (decide (k = k') && off.is0) <;> rw [hb] at h
    · exact h.elim
    · simp only [Bool.and_eq_true] at hb
      obtain ⟨hkk, hoff⟩ := hb
      have := of_decide_eq_true hkk
      subst this
      have hoff : off = .lit 0 := by
        cases off with
        | lit o => exact congrArg Off.lit (beq_t hoff)
        | «at» o i => cases hoff
      subst hoff
      simp only [cond_true] at h
      split at h
      · rename_i o ho
        obtain ⟨l, el, hj, hden⟩ := realRow_get ho
        have hown := ownPm_get hg
        obtain ⟨kk, rfl⟩ : ∃ kk, kd = .int kk := by cases kd <;> first | exact ⟨_, rfl⟩ | cases hk
        have hf := findNow_p kk k e.den ps 0
        have hne : j ≠ id := fun e => by subst e; rw [hj] at hown; cases hown
        obtain ⟨hfree, hT⟩ := hS.tell hj
        rw [← hden β] at hT
        have hK := h _ hfree
        have hown' : getH id (delH j hp.H) = some (.pmap k ps c) := by rw [delH, getH_ne hne]; exact hown
        have g3 := (hS.get (id := id) (by unfold getB; exact hown)).2.2
        simp only [SObj.den] at g3
        have hlt : blk β id < w.heap.size := (Array.getElem?_eq_some_iff.1 g3).1
        have fin : ∀ (es : List MapEntry) (c' : Nat), (putP e.den (blk β j) c ps).map (peD k) = es → putC e.den c ps = c' →
            (Instr.mapUpdate t (.map (some (blk β id))) (.int k e.den) (.pointer (some ⟨blk β j, 0, none⟩))).run P w = .ok () { w with heap := w.heap.setIfInBounds (blk β id) (.map es.toArray c') } →
            ∃ hp' w', (Instr.mapUpdate t ((SV.map id).val β) ((SV.int k e).val β) ((SV.ptr j (.lit 0)).val β)).run P w = .ok () w' ∧ Sat F β hp' w' ∧ K hp' := by
          intro es c' he hc' hr
          refine ⟨_, _, hr, hT.set hown' (o' := .pmap k (putP e.den (blk β j) c ps) (putC e.den c ps)) trivial ⟨rfl, rfl, rfl⟩ ?_ (fun b hne => by simp [Array.getElem?_setIfInBounds_ne (Ne.symm hne)]), hK⟩
          simp [SObj.den, he, hc', hlt]
        cases hfp : findP e.den ps with
        | none =>
          rw [hfp] at hf
          refine fin ((ps ++ [(⟨e.den, blk β j, c⟩ : PE)]).map (peD k)) (c + 1) (by rw [putP_none hfp]) (by simp [putC, hfp]) ?_
          simp [Instr.mapUpdate, run_underlying hd, run_checkKey hkd hk, Instr.findKey, run_underlying hkd, getObj, setObj, Sem.run, g3, hf, peD]
        | some b =>
          rw [hfp] at hf
          obtain ⟨x, hx1, hx2, hx3⟩ := idxP_at (k := k) hfp
          refine fin _ c rfl (by simp [putC, hfp]) ?_
          have hst : ∀ a : Int, (Instr.keyThatStays (.int k a) (.int k a)).run P w = .ok (.int k a) w := fun a => by
            unfold Instr.keyThatStays
            have : Instr.sameBits 10000 (.int k a) (.int k a) = true := by simp [Instr.sameBits]
            rw [if_pos this]; rfl
          have hkk : ((((ps.map (peD k)).toArray[idxP e.den ps 0]?).map (·.key)).getD (.int k e.den)) = .int k e.den := by
            simp [hx2, peD, hx3]
          have hmod : (ps.map (peD k)).toArray.modify (idxP e.den ps 0) (fun x => { x with key := .int k e.den, val := .pointer (some ⟨blk β j, 0, none⟩) }) = ((putP e.den (blk β j) c ps).map (peD k)).toArray := by
            apply Array.ext'
            simp only [Array.toList_modify]
            exact putP_some hfp
          simp only [Instr.mapUpdate, Sem.run_bind, run_underlying hd, Result.andThen_ok, run_checkKey hkd hk, Instr.findKey, run_underlying hkd, getObj, Sem.run, g3, hf, List.toList_toArray, Sem.run_pure, Option.map_some, hkk, hst]
          simp only [setObj, Sem.run, g3, hmod]
      · exact h.elim
  · exact h.elim
def xMapUpdate (P : Program) (t : TypeId) (m key v : SV) (hp : Hp) (K : Hp → Prop) : Prop :=
  match P.underlying t, m with
  | some (.map kt _), .map id => (match P.underlying kt, ownMap id hp with
    | some kd, some (es, c) => bif keyD kd && key.one && v.one then
        findK kd key es 0 (fun i _ => K { hp with H := setH id (.map (es.modify i fun e => (key, v, e.2.2)) c) hp.H })
          (K { hp with H := setH id (.map (es ++ [(key, v, c)]) (c + 1)) hp.H }) else False
    | some kd, none => bif keyD kd then xPmUpdate id key v hp K else False
    | _, _ => False)
  | _, _ => False
theorem xMapUpdate_sound (hS : Sat F β hp w) {t : TypeId} {m key v : SV} {K : Hp → Prop} (hkw : key.wf β.length) (hvw : v.wf β.length) (h : xMapUpdate P t m key v hp K) :
    ∃ hp' w', (Instr.mapUpdate t (m.val β) (key.val β) (v.val β)).run P w = .ok () w' ∧ Sat F β hp' w' ∧ K hp' := by
  unfold xMapUpdate at h
  split at h
  · rename_i kt vt id hd
    split at h
    · rename_i kd es c hkd hg
      have hown := ownMap_get hg
      cases hb : (keyD kd && key.one && v.one) <;> rw [hb] at h
      · exact h.elim
      · simp only [Bool.and_eq_true] at hb
        obtain ⟨⟨hk, k1⟩, v1⟩ := hb
        obtain ⟨g1, g2, g3⟩ := hS.get (o := .map es c) (id := id) (by unfold getB; rw [hown])
        simp only [SObj.den] at g3
        have hlt : blk β id < w.heap.size := (Array.getElem?_eq_some_iff.1 g3).1
        have fin : ∀ o' : SObj, o'.wf β.length → (Instr.mapUpdate t (.map (some (blk β id))) (key.val β) (v.val β)).run P w = .ok () { w with heap := w.heap.setIfInBounds (blk β id) (o'.den β) } →
            K { hp with H := setH id o' hp.H } → ∃ hp' w', (Instr.mapUpdate t ((SV.map id).val β) (key.val β) (v.val β)).run P w = .ok () w' ∧ Sat F β hp' w' ∧ K hp' := by
          intro o' ho hr hK
          refine ⟨_, _, hr, hS.set hown ho ⟨rfl, rfl, rfl⟩ (by simp [hlt]) (fun b hne => by simp [Array.getElem?_setIfInBounds_ne (Ne.symm hne)]), hK⟩
        rcases findK_sound (β := β) es 0 _ _ h with ⟨hf, hK⟩ | ⟨j, e, hj, hy, hf, hkey, hbits⟩
        · refine fin (.map (es ++ [(key, v, c)]) (c + 1)) (fun e he => ?_) ?_ hK
          · rcases List.mem_append.1 he with he | he
            · exact g2 e he
            · obtain rfl := List.mem_singleton.1 he
              exact ⟨hkw, hvw⟩
          · simp [Instr.mapUpdate, run_underlying hd, run_checkKey hkd hk, Instr.findKey, run_underlying hkd, getObj, setObj, Sem.run, g3, hf, SObj.den, entD]
        · simp only [Nat.zero_add] at hy hf
          refine fin (.map (es.modify j fun e => (key, v, e.2.2)) c) (fun e' he => ?_) ?_ hy
          · obtain ⟨i, hi⟩ := List.mem_iff_getElem?.1 he
            rw [List.getElem?_modify] at hi
            cases hei : es[i]? with
            | none => rw [hei] at hi; cases hi
            | some x =>
              rw [hei] at hi
              have hx := g2 x (List.mem_of_getElem? hei)
              by_cases hij : j = i
              · simp [hij] at hi
                subst hi
                exact ⟨hkw, hvw⟩
              · simp [hij] at hi
                subst hi
                exact hx
          · have hej : (es.map (entD β)).toArray[j]? = some (entD β e) := by simp [hj]
            have hst : (Instr.keyThatStays (e.1.val β) (key.val β)).run P w = .ok (key.val β) w := by
              unfold Instr.keyThatStays
              rw [if_pos (hbits 10000)]; rfl
            have hmod : (es.map (entD β)).toArray.modify j (fun x => { x with key := key.val β, val := v.val β }) = ((es.modify j fun e => (key, v, e.2.2)).map (entD β)).toArray := by
              apply Array.ext'
              simp only [Array.toList_modify]
              apply List.ext_getElem?
              intro i
              simp only [List.getElem?_modify, List.getElem?_map]
              cases es[i]? with
              | none => rfl
              | some x => by_cases hij : j = i <;> simp [hij, entD]
            have hkk : ((((es.map (entD β)).toArray[j]?).map (·.key)).getD (key.val β)) = e.1.val β := by rw [hej]; rfl
            simp only [Instr.mapUpdate, Sem.run_bind, run_underlying hd, Result.andThen_ok, run_checkKey hkd hk, Instr.findKey, run_underlying hkd, getObj, Sem.run, g3, hf, List.toList_toArray, Sem.run_pure, hkk, hst, SObj.den]
            simp only [setObj, Sem.run, g3, hmod]
    · rename_i kd hkd _
      cases hk : keyD kd <;> rw [hk] at h
      · exact h.elim
      · exact xPmUpdate_sound hS hd hkd hk h
    · exact h.elim
  · exact h.elim
end
end Vx
end
section
/- One operation of a region, on symbolic values. -/
namespace Vx
open Go

/-- The temporaries: how many there are; what was put into them (the first row of a number counts); what the others hold. -/
structure Tm where
  n : Nat
  l : List (Nat × SV)
  d : Nat → Value
def look (d : Nat → Value) (t : Nat) : List (Nat × SV) → SV
  | [] => .opq (d t)
  | (j, x) :: r => bif Nat.beq j t then x else look d t r
def nth (T : Tm) (t : Nat) : SV := bif Nat.blt t T.n then look T.d t T.l else .opq undef
def setT (T : Tm) (t : Nat) (x : SV) : Tm := ⟨T.n, (t, x) :: T.l, T.d⟩

structure TOk (β : List Nat) (T : Tm) (a : Act) : Prop where
  size : a.tmps.size = T.n
  tmps : ∀ t, t < T.n → a.tmps[t]? = some ((look T.d t T.l).val β)
  ok : ∀ t, (look T.d t T.l).one = true ∧ (look T.d t T.l).wf β.length
  defers : a.defers = []

def ev (T : Tm) : Operand → SV
  | .tmp t => nth T t
  | .const v => openV v
  | .global g => .gptr g 0
  | .func f => .opq (.func (.func f) #[] #[])
/-- What operands are. -/
def EvOk (β : List Nat) (ρ : Operand → Value) (e : Operand → SV) : Prop := ∀ x, (e x).one = true ∧ (e x).wf β.length ∧ ρ x = (e x).val β

theorem undef_opq (β : List Nat) : (SV.opq undef).val β = undef := rfl
theorem blt_of {a b : Nat} (h : a < b) : Nat.blt a b = true := Nat.ble_eq_true_of_le h
theorem blt_not {a b : Nat} (h : b ≤ a) : Nat.blt a b = false := by
  cases hb : Nat.blt a b
  · rfl
  · exact absurd (blt_t hb) (by omega)
theorem TOk.ev {β : List Nat} {T : Tm} {a : Act} (h : TOk β T a) : EvOk β a.eval (Vx.ev T) := by
  intro x
  cases x with
  | tmp t =>
    simp only [Vx.ev, nth, Act.eval]
    rcases Nat.lt_or_ge t T.n with ht | ht
    · rw [blt_of ht]
      refine ⟨(h.ok t).1, (h.ok t).2, ?_⟩
      have := h.tmps t ht
      simp [this]
    · rw [blt_not ht]
      refine ⟨rfl, trivial, ?_⟩
      have hs := h.size
      have : a.tmps[t]? = none := Array.getElem?_eq_none (by omega)
      simp [this]; rfl
  | const v => exact ⟨openV_one v, openV_wf _ v, by simp [Vx.ev, Act.eval, SV.val, openV_vals]⟩
  | global g => exact ⟨rfl, trivial, rfl⟩
  | func f => exact ⟨rfl, trivial, rfl⟩

theorem TOk.append {β γ : List Nat} {T : Tm} {a : Act} (h : TOk β T a) : TOk (β ++ γ) T a :=
  ⟨h.size, fun t ht => by rw [h.tmps t ht, SV.val_append β γ _ (h.ok t).2], fun t => ⟨(h.ok t).1, SV.wf_mono (by simp) _ (h.ok t).2⟩, h.defers⟩

def putT (T : Tm) (d : Option Tmp) (x : SV) : Tm :=
  match d with
  | some t => setT T t x
  | none => T
theorem TOk.put {β : List Nat} {T : Tm} {a : Act} (h : TOk β T a) (d : Option Tmp) {x : SV} (h1 : x.one = true) (h2 : x.wf β.length) : TOk β (putT T d x) (a.put d (x.val β)) := by
  cases d with
  | none => exact h
  | some t =>
    refine ⟨?_, ?_, ?_, h.defers⟩
    · simp [putT, setT, Act.put, h.size]
    · intro j hj
      simp only [putT, setT, look, Act.put]
      by_cases hjt : t = j
      · subst hjt
        rw [beq_self]
        have : t < a.tmps.size := by rw [h.size]; exact hj
        simp [this]
      · rw [beq_ne hjt, Array.getElem?_setIfInBounds_ne hjt]
        exact h.tmps j hj
    · intro j
      simp only [putT, setT, look]
      by_cases hjt : t = j
      · subst hjt; rw [beq_self]; exact ⟨h1, h2⟩
      · rw [beq_ne hjt]; exact h.ok j

/-- Operands as a row. -/
def evRow (e : Operand → SV) : List Operand → SV
  | [] => .nil
  | x :: r => .cons (e x) (evRow e r)
def evOpt (e : Operand → SV) : Option Operand → Option SV
  | none => none
  | some x => some (e x)
def evParts (e : Operand → SV) : List (Nat × Operand) → List (Nat × SV)
  | [] => []
  | (i, x) :: r => (i, e x) :: evParts e r

section
variable {P : Program} {F : Fr} {β : List Nat} {hp : Hp} {w : World} {zt : List (TypeId × SV)} {ρ : Operand → Value} {e : Operand → SV}

theorem evRow_ok (he : EvOk β ρ e) : ∀ l : List Operand, (evRow e l).wf β.length ∧ (evRow e l).vals β = l.map ρ
  | [] => ⟨trivial, rfl⟩
  | x :: r => by
    obtain ⟨h1, h2⟩ := evRow_ok he r
    obtain ⟨g1, g2, g3⟩ := he x
    exact ⟨⟨g2, h1⟩, by simp [evRow, SV.vals, SV.vals_one β g1, h2, g3]⟩
theorem evOpt_ok (he : EvOk β ρ e) (x : Option Operand) : (evOpt e x).map (SV.val β) = x.map ρ := by
  cases x with
  | none => rfl
  | some x => simp [evOpt, (he x).2.2]
theorem evParts_ok (he : EvOk β ρ e) : ∀ l : List (Nat × Operand), (∀ p ∈ evParts e l, p.2.one = true ∧ p.2.wf β.length) ∧ ((evParts e l).map fun p => (p.1, p.2.val β)) = l.map fun p => (p.1, ρ p.2)
  | [] => ⟨(fun p hp => by cases hp), rfl⟩
  | (i, x) :: r => by
    obtain ⟨h1, h2⟩ := evParts_ok he r
    obtain ⟨g1, g2, g3⟩ := he x
    refine ⟨(fun p hp => ?_), by simp [evParts, h2, g3]⟩
    rcases List.mem_cons.1 hp with rfl | hp
    · exact ⟨g1, g2⟩
    · exact h1 p hp

/-- Not nil for sure. -/
def notNil : SV → Bool
  | .ptr .. | .gptr .. | .iface .. | .map _ | .slice .. => true
  | _ => false

/-- Operations that only compute. -/
def xPure (P : Program) (zt : List (TypeId × SV)) (o : Op) (e : Operand → SV) (K : SV → Prop) : Prop :=
  match o with
  | .move x | .assign x => K (e x)
  | .pick c a b => (match e c with
    | .bool (.lit t) => K (bif t then e a else e b)
    | .bool (.v t) => (match e a, e b with
      | .bool x, .bool y => K (.bool (.v (bif t then x.den else y.den)))
      | _, _ => False)
    | _ => False)
  | .nilCheck x => bif notNil (e x) then K (e x) else False
  | .binOp op t x y _ => xBin P op t (e x) (e y) K
  | .unOp op _ x => xUn op (e x) K
  | .convert src dst x => xConvP P src dst (e x) K
  | .makeInterface t x => xIface P t (e x) K
  | .makeFunc fn first captured => (match first.toList with
    | [] => K (.fn fn (evRow e captured.toList))
    | _ => False)
  | .slice t x lo hi mx => xSlice P t (e x) (evOpt e lo) (evOpt e hi) (evOpt e mx) K
  | .fieldAddr t x f => xFieldAddr P t (e x) f K
  | .field t x f => xField P t (e x) f K
  | .indexAddr t x i => xIndexAddr P t (e x) (e i) K
  | .index t x i => xIndex P t (e x) (e i) K
  | .extract t i => xExtract (e t) i K
  | .build t parts => xBuild P zt t (evParts e parts.toList) K
  | .call c => (match c.callee, c.argTypes.toList, c.args.toList with
    | .builtin .cap, [t], [x] => xCap P t (e x) K
    | .builtin .len, [t], [x] => xLenP P t (e x) K
    | .builtin .min, _, [x, y] => xMinMax true (e x) (e y) K
    | .builtin .max, _, [x, y] => xMinMax false (e x) (e y) K
    | _, _, _ => False)
  | _ => False

theorem run_value {s : Sem Value} {v : Value} {w' : World} (h : s.run P w = .ok v w') : (do pure (Next.value (← s)) : Sem Next).run P w = .ok (.value v) w' := by
  simp [h]

theorem toList_one {α : Type} {a : Array α} {x : α} (h : a.toList = [x]) : a = #[x] := by
  apply Array.ext'; rw [h]
theorem toList_two {α : Type} {a : Array α} {x y : α} (h : a.toList = [x, y]) : a = #[x, y] := by
  apply Array.ext'; rw [h]
theorem toList_nil {α : Type} {a : Array α} (h : a.toList = []) : a = #[] := by
  apply Array.ext'; rw [h]

theorem run_builtin {o : Oper} {c : Call} (ho : o.op = .call c) {b : Builtin} (hc : c.callee = .builtin b) :
    execOp ρ o = builtin b c.argTypes o.type (c.args.map fun | .const _ => true | _ => false) (c.args.map ρ) := by
  unfold execOp
  rw [ho]
  simp only [resolve, hc, invoke]
  rfl

theorem xPure_sound (hz : ZOk P zt) {o : Oper} (he : EvOk β ρ e) {K : SV → Prop} (h : xPure P zt o.op e K) :
    ∃ sv, K sv ∧ sv.one = true ∧ sv.wf β.length ∧ ∀ w, (execOp ρ o).run P w = .ok (.value (sv.val β)) w := by
  have lift : ∀ (s : Sem Value), execOp ρ o = (do pure (Next.value (← s))) → (∃ sv, K sv ∧ sv.one = true ∧ sv.wf β.length ∧ ∀ w, s.run P w = .ok (sv.val β) w) →
      ∃ sv, K sv ∧ sv.one = true ∧ sv.wf β.length ∧ ∀ w, (execOp ρ o).run P w = .ok (.value (sv.val β)) w := by
    intro s hs ⟨sv, h1, h2, h3, h4⟩
    exact ⟨sv, h1, h2, h3, fun w => by rw [hs]; exact run_value (h4 w)⟩
  unfold xPure at h
  split at h
  · rename_i x ho
    exact ⟨_, h, (he x).1, (he x).2.1, fun w => by simp only [execOp, ho, (he x).2.2]; rfl⟩
  · rename_i x ho
    exact ⟨_, h, (he x).1, (he x).2.1, fun w => by simp only [execOp, ho, (he x).2.2]; rfl⟩
  · rename_i c a b ho
    have hc := (he c).2.2
    split at h
    · rename_i t hct
      rw [hct] at hc
      cases t
      · exact ⟨_, h, (he b).1, (he b).2.1, fun w => by simp [execOp, ho, hc, val_bool, BE.den, asBool, (he b).2.2]⟩
      · exact ⟨_, h, (he a).1, (he a).2.1, fun w => by simp [execOp, ho, hc, val_bool, BE.den, asBool, (he a).2.2]⟩
    · rename_i t hct
      rw [hct] at hc
      split at h
      · rename_i x y hx hy
        have ha := (he a).2.2
        have hb := (he b).2.2
        rw [hx] at ha
        rw [hy] at hb
        refine ⟨_, h, rfl, trivial, fun w => ?_⟩
        cases t <;> simp [execOp, ho, hc, val_bool, BE.den, asBool, ha, hb]
      · exact h.elim
    · exact h.elim
  · rename_i x ho
    cases hn : notNil (e x) <;> rw [hn] at h
    · exact h.elim
    · refine ⟨_, h, (he x).1, (he x).2.1, fun w => ?_⟩
      have hx := (he x).2.2
      simp only [execOp, ho, hx]
      cases hex : e x <;> rw [hex] at hn <;> first | rfl | cases hn
  · rename_i op t x y yt ho
    obtain ⟨sv, h1, h2, h3, h4⟩ := xBin_sound (β := β) h
    refine lift _ ?_ ⟨sv, h1, h2, h3, fun w => h4 x y w⟩
    simp only [execOp, ho, (he x).2.2, (he y).2.2]
  · rename_i op t x ho
    exact lift _ (by simp only [execOp, ho, (he x).2.2]) (xUn_sound h)
  · rename_i src dst x ho
    exact lift _ (by simp only [execOp, ho, (he x).2.2]) (xConvP_sound h)
  · rename_i t x ho
    exact lift _ (by simp only [execOp, ho, (he x).2.2]) (xIface_sound (he x).1 (he x).2.1 h)
  · rename_i fn first captured ho
    split at h
    · rename_i hf
      obtain ⟨g1, g2⟩ := evRow_ok he captured.toList
      refine ⟨_, h, rfl, g1, fun w => ?_⟩
      have := toList_nil hf
      subst this
      simp only [execOp, ho, Instr.makeFunc, SV.val, SV.vals, g2, List.headD_cons]
      simp
      apply Array.ext'
      simp
    · exact h.elim
  · rename_i t x lo hi mx ho
    refine lift _ ?_ (xSlice_sound (he x).2.1 h)
    simp only [execOp, ho, (he x).2.2, evOpt_ok he]
  · rename_i t x f ho
    exact lift _ (by simp only [execOp, ho, (he x).2.2]) (xFieldAddr_sound (he x).2.1 h)
  · rename_i t x f ho
    exact lift _ (by simp only [execOp, ho, (he x).2.2]) (xField_sound (he x).2.1 h)
  · rename_i t x i ho
    exact lift _ (by simp only [execOp, ho, (he x).2.2, (he i).2.2]) (xIndexAddr_sound (he x).2.1 h)
  · rename_i t x i ho
    exact lift _ (by simp only [execOp, ho, (he x).2.2, (he i).2.2]) (xIndex_sound (he x).2.1 h)
  · rename_i t i ho
    exact lift _ (by simp only [execOp, ho, (he t).2.2]) (xExtract_sound (he t).2.1 h)
  · rename_i t parts ho
    obtain ⟨g1, g2⟩ := evParts_ok he parts.toList
    refine lift _ ?_ (xBuild_sound hz g1 h)
    rw [g2]
    simp only [execOp, ho]
    congr 2
    apply Array.ext'
    simp
  · rename_i c ho
    split at h
    · rename_i t x hc ht hx
      refine lift _ ?_ (xCap_sound (ty := o.type) h)
      rw [run_builtin ho hc, toList_one ht, toList_one hx]
      simp only [builtin, List.map_toArray, List.map_cons, List.map_nil, (he x).2.2]
    · rename_i t x hc ht hx
      refine lift _ ?_ (xLenP_sound (ty := o.type) h)
      rw [run_builtin ho hc, toList_one ht, toList_one hx]
      simp only [builtin, List.map_toArray, List.map_cons, List.map_nil, (he x).2.2]
    · rename_i x y hc hx
      obtain ⟨sv, h1, h2, h3, h4⟩ := xMin_sound (β := β) (P := P) h
      refine lift _ ?_ ⟨sv, h1, h2, h3, fun w => h4 c.argTypes o.type w⟩
      rw [run_builtin ho hc, toList_two hx]
      simp only [builtin, List.map_toArray, List.map_cons, List.map_nil, (he x).2.2, (he y).2.2]
    · rename_i x y hc hx
      obtain ⟨sv, h1, h2, h3, h4⟩ := xMax_sound (β := β) (P := P) h
      refine lift _ ?_ ⟨sv, h1, h2, h3, fun w => h4 c.argTypes o.type w⟩
      rw [run_builtin ho hc, toList_two hx]
      simp only [builtin, List.map_toArray, List.map_cons, List.map_nil, (he x).2.2, (he y).2.2]
    · exact h.elim
  · exact h.elim

/-- Operations that read, and leave the world as it is. -/
def xRead (P : Program) (zt : List (TypeId × SV)) (o : Op) (e : Operand → SV) (hp : Hp) (K : SV → Prop) : Prop :=
  match o with
  | .load t a => xLoad P t (e a) hp K
  | .lookup t x i ok => xLookup P zt t (e x) (e i) ok hp K
  | .convert src dst x => xConvB P src dst (e x) hp K
  | .call c => (match c.callee, c.argTypes.toList, c.args.toList with
    | .builtin .len, [t], [x] => xLen P t (e x) hp K
    | _, _, _ => False)
  | _ => False
theorem xRead_sound (hz : ZOk P zt) (hS : Sat F β hp w) {o : Oper} (he : EvOk β ρ e) {K : SV → Prop} (h : xRead P zt o.op e hp K) :
    ∃ sv, K sv ∧ sv.one = true ∧ sv.wf β.length ∧ ∀ w', Sat F β hp w' → (execOp ρ o).run P w' = .ok (.value (sv.val β)) w' := by
  have lift : ∀ (s : Sem Value), execOp ρ o = (do pure (Next.value (← s))) → (∃ sv, K sv ∧ sv.one = true ∧ sv.wf β.length ∧ ∀ w', Sat F β hp w' → s.run P w' = .ok (sv.val β) w') →
      ∃ sv, K sv ∧ sv.one = true ∧ sv.wf β.length ∧ ∀ w', Sat F β hp w' → (execOp ρ o).run P w' = .ok (.value (sv.val β)) w' := by
    intro s hs ⟨sv, h1, h2, h3, h4⟩
    exact ⟨sv, h1, h2, h3, fun w' hS' => by rw [hs]; exact run_value (h4 w' hS')⟩
  unfold xRead at h
  split at h
  · rename_i t a ho
    exact lift _ (by simp only [execOp, ho, (he a).2.2]) (xLoad_sound hS h)
  · rename_i t x i ok ho
    exact lift _ (by simp only [execOp, ho, (he x).2.2, (he i).2.2]) (xLookup_sound hz hS h)
  · rename_i src dst x ho
    exact lift _ (by simp only [execOp, ho, (he x).2.2]) (xConvB_sound hS h)
  · rename_i c ho
    split at h
    · rename_i t x hc ht hx
      refine lift _ ?_ (xLen_sound (ty := o.type) h)
      rw [run_builtin ho hc, toList_one ht, toList_one hx]
      simp only [builtin, List.map_toArray, List.map_cons, List.map_nil, (he x).2.2]
    · exact h.elim
  · exact h.elim

/-- Is an operation one that only computes; one that only reads? -/
inductive OpKind where
  | pure
  | read
  | act
  | call
def kindOf (P : Program) (o : Op) : OpKind :=
  match o with
  | .load .. | .lookup .. => .read
  | .convert src dst _ => (match P.underlying src, P.underlying dst with
    | some (.slice _), _ => .read
    | some .string, some (.slice _) => .act
    | _, _ => .pure)
  | .alloc .. | .box .. | .buildSlice .. | .store .. | .makeMap .. | .makeSlice .. | .mapUpdate .. | .insert .. | .range .. | .next .. => .act
  | .call c => (match c.callee with
    | .builtin .len => (match c.argTypes.toList with
      | [t] => (match P.underlying t with
        | some (.map _ _) => .read
        | _ => .pure)
      | _ => .read)
    | .builtin .cap | .builtin .min | .builtin .max => .pure
    | .builtin _ => .act
    | _ => .call)
  | _ => .pure

/-- Operations that act on memory: what they leave, and the heap then. -/
def xAct (P : Program) (zt : List (TypeId × SV)) (o : Op) (e : Operand → SV) (hp : Hp) (K : SV → Hp → Prop) : Prop :=
  match o with
  | .alloc t => xAlloc P zt t hp K
  | .box t x => xBox t (e x) hp K
  | .buildSlice t n parts => xBuildSlice P zt t n (evParts e parts.toList) hp K
  | .store t a x => xStore P t (e a) (e x) hp fun hp' => K (.opq undef) hp'
  | .makeMap t r => xMakeMap P t (evOpt e r) hp K
  | .makeSlice t l c => xMakeSlice P zt t (e l) (e c) hp K
  | .mapUpdate t m k x | .insert t m k x => xMapUpdate P t (e m) (e k) (e x) hp fun hp' => K (.opq undef) hp'
  | .convert src dst x => xBytes P src dst (e x) hp K
  | .call c => (match c.callee, c.argTypes.toList, c.args.toList with
    | .builtin .append, [t, tx], [s, x] => xAppend P zt t tx (e s) (e x) hp K
    | .builtin .copy, [t, tx], [d, x] => xCopy P t tx (e d) (e x) hp K
    | _, _, _ => False)
  | _ => False

/-- What an operation leaves. -/
def OpRuns (P : Program) (F : Fr) (β : List Nat) (w : World) (s : Sem Next) (K : SV → Hp → Prop) : Prop :=
  ∃ n v w', s.run P w = .ok n w' ∧ (n = .value v ∨ (n = .skip ∧ v = undef)) ∧ Yld F β K v w'

theorem xAct_sound (hz : ZOk P zt) (hS : Sat F β hp w) {o : Oper} (he : EvOk β ρ e) {K : SV → Hp → Prop} (h : xAct P zt o.op e hp K) : OpRuns P F β w (execOp ρ o) K := by
  have lift : ∀ (s : Sem Value), execOp ρ o = (do pure (Next.value (← s))) → Runs P F β w s K → OpRuns P F β w (execOp ρ o) K := by
    intro s hs ⟨v, w', h1, h2⟩
    exact ⟨_, v, w', by rw [hs]; exact run_value h1, .inl rfl, h2⟩
  have liftU : ∀ (s : Sem Unit), execOp ρ o = (do s; pure Next.skip) → (∃ hp' w', s.run P w = .ok () w' ∧ Sat F β hp' w' ∧ K (.opq undef) hp') → OpRuns P F β w (execOp ρ o) K := by
    intro s hs ⟨hp', w', h1, h2, h3⟩
    refine ⟨.skip, undef, w', by rw [hs]; simp [h1], .inr ⟨rfl, rfl⟩, yld_same (sv := .opq undef) h2 rfl trivial rfl h3⟩
  unfold xAct at h
  split at h
  · rename_i t ho
    exact lift _ (by simp only [execOp, ho]) (xAlloc_sound hz hS h)
  · rename_i t x ho
    exact lift _ (by simp only [execOp, ho, (he x).2.2]) (xBox_sound hS (he x).1 (he x).2.1 h)
  · rename_i t n parts ho
    obtain ⟨g1, g2⟩ := evParts_ok he parts.toList
    refine lift _ ?_ (xBuildSlice_sound hz hS g1 h)
    rw [g2]
    simp only [execOp, ho]
    congr 2
    apply Array.ext'
    simp
  · rename_i t a x ho
    exact liftU _ (by simp only [execOp, ho, (he a).2.2, (he x).2.2]) (xStore_sound hS (he x).2.1 h)
  · rename_i t r ho
    exact lift _ (by simp only [execOp, ho, evOpt_ok he]) (xMakeMap_sound hS h)
  · rename_i t l c ho
    exact lift _ (by simp only [execOp, ho, (he l).2.2, (he c).2.2]) (xMakeSlice_sound hz hS h)
  · rename_i t m k x ho
    exact liftU _ (by simp only [execOp, ho, (he m).2.2, (he k).2.2, (he x).2.2]) (xMapUpdate_sound hS (he k).2.1 (he x).2.1 h)
  · rename_i t m k x ho
    exact liftU _ (by simp only [execOp, ho, (he m).2.2, (he k).2.2, (he x).2.2]) (xMapUpdate_sound hS (he k).2.1 (he x).2.1 h)
  · rename_i src dst x ho
    exact lift _ (by simp only [execOp, ho, (he x).2.2]) (xBytes_sound hS h)
  · rename_i c ho
    split at h
    · rename_i t tx s x hc ht hx
      refine lift _ ?_ (xAppend_sound (ty := o.type) hz hS (he s).2.1 h)
      rw [run_builtin ho hc, toList_two ht, toList_two hx]
      simp only [builtin, List.map_toArray, List.map_cons, List.map_nil, (he s).2.2, (he x).2.2]
    · rename_i t tx d x hc ht hx
      refine lift _ ?_ (xCopy_sound (ty := o.type) hS h)
      rw [run_builtin ho hc, toList_two ht, toList_two hx]
      simp only [builtin, List.map_toArray, List.map_cons, List.map_nil, (he d).2.2, (he x).2.2]
    · exact h.elim
  · exact h.elim
end
end Vx
end
section
/- Regions: in the order of the text, and in whatever order is drawn. -/
namespace Vx
open Go

abbrev SpecT := List SV → Hp → (SV → Hp → Prop) → Prop
/-- What a function's symbolic twin says is so. -/
def SpecOk (P : Program) (f : Nat) (s : SpecT) : Prop :=
  ∀ args hp K, s args hp K → (∀ vs w, (callFunc f vs).run P w = .ok (.enter f vs) w) ∧
    ∀ F β w, Sat F β hp w → (∀ x ∈ args, x.one = true ∧ x.wf β.length) → Calls P f (args.map (SV.val β)).toArray w (fun e w' => ∃ v, e = .returned v ∧ Yld F β K v w')
/-- The same of a function that the model answers for at once. -/
def ExtOk (P : Program) (f : Nat) (s : SpecT) : Prop :=
  ∀ args hp K, s args hp K → ∀ F β w, Sat F β hp w → (∀ x ∈ args, x.one = true ∧ x.wf β.length) →
    ∃ v w', (callFunc f (args.map (SV.val β)).toArray).run P w = .ok (.value v) w' ∧ Yld F β K v w'
def CallOk (P : Program) (call : Nat → SpecT) : Prop := ∀ f, SpecOk P f (call f) ∨ ExtOk P f (call f)

/-- A world that holds all that another one held. -/
structure Ext (w w' : World) : Prop where
  outer : w'.tape = w.tape ∧ w'.os = w.os ∧ w'.output = w.output
  heap : ∀ (b : Nat) (o : Obj), w.heap[b]? = some o → w'.heap[b]? = some o
theorem Ext.refl (w : World) : Ext w w := ⟨⟨rfl, rfl, rfl⟩, fun _ _ h => h⟩
theorem Ext.trans {w w' w'' : World} (h : Ext w w') (h' : Ext w' w'') : Ext w w'' :=
  ⟨⟨h'.outer.1.trans h.outer.1, h'.outer.2.1.trans h.outer.2.1, h'.outer.2.2.trans h.outer.2.2⟩, fun b o hb => h'.heap b o (h.heap b o hb)⟩
theorem Sat.extend {F : Fr} {β : List Nat} {hp : Hp} {w w' : World} (h : Sat F β hp w) (he : Ext w w') : Sat F β hp w' :=
  ⟨h.n, ⟨he.outer.1.trans h.outer.1, he.outer.2.1.trans h.outer.2.1, he.outer.2.2.trans h.outer.2.2⟩, fun b o hb => he.heap b o (h.ext b o hb),
    fun id o hm => let ⟨a, b, c, d⟩ := h.own id o hm; ⟨a, b, c, he.heap _ _ d⟩, h.apart, h.ro, h.disj⟩

abbrev QSpecT := List SV → Hp → (SV → Prop) → Prop
/-- A function that leaves all memory as it was: one value, in every world that the heap describes. -/
def QCallOk (P : Program) (call : Nat → QSpecT) : Prop :=
  ∀ f args hp K, call f args hp K → (∀ vs w, (callFunc f vs).run P w = .ok (.enter f vs) w) ∧
    ∀ F β w, Sat F β hp w → (∀ x ∈ args, x.one = true ∧ x.wf β.length) →
      ∃ sv, K sv ∧ sv.one = true ∧ sv.wf β.length ∧ ∀ w', Sat F β hp w' → Calls P f (args.map (SV.val β)).toArray w' (fun e w'' => e = .returned (sv.val β) ∧ Ext w' w'')

/-- The executor's settings. -/
structure Cfg where
  P : Program
  zt : List (TypeId × SV)
  qs : List Nat
  qcall : Nat → QSpecT
structure CfgOk (C : Cfg) : Prop where
  z : ZOk C.P C.zt
  qcall : QCallOk C.P C.qcall
  mixed : C.P.follows .mixedOrders = true

def rowList : SV → Option (List SV)
  | .nil => some []
  | .cons h t => bif h.one then (match rowList t with
    | some l => some (h :: l)
    | none => none) else none
  | _ => none

def evList (e : Operand → SV) : List Operand → List SV
  | [] => []
  | x :: r => e x :: evList e r

/-- A call of a function. -/
def calleeOf (c : Call) (e : Operand → SV) : Option (Nat × List SV) :=
  match c.callee with
  | .value (.func f) => some (f, evList e c.args.toList)
  | .value x => (match e x with
    | .fn (.func f) caps => (match rowList caps with
      | some l => some (f, evList e c.args.toList ++ l)
      | none => none)
    | _ => none)
  | _ => none

section
variable {P : Program} {F : Fr} {β : List Nat} {hp : Hp} {w : World} {zt : List (TypeId × SV)} {ρ : Operand → Value} {e : Operand → SV} {C : Cfg}

theorem rowList_sound : ∀ (x : SV) (l : List SV), x.wf β.length → rowList x = some l → (∀ y ∈ l, y.one = true ∧ y.wf β.length) ∧ x.vals β = l.map (SV.val β) := by
  intro x
  induction x with
  | nil => intro l _ h; cases h; exact ⟨(fun y hy => by cases hy), rfl⟩
  | cons a t _ iht =>
    intro l hw h
    simp only [rowList] at h
    cases h1 : a.one <;> rw [h1] at h
    · cases h
    · simp only [cond_true] at h
      split at h
      · rename_i l' hl'
        cases h
        obtain ⟨g1, g2⟩ := iht l' hw.2 hl'
        refine ⟨fun y hy => ?_, by simp [SV.vals, SV.vals_one β h1, g2]⟩
        rcases List.mem_cons.1 hy with rfl | hy
        · exact ⟨h1, hw.1⟩
        · exact g1 y hy
      · cases h
  | _ => intro l _ h; cases h
theorem evList_ok (he : EvOk β ρ e) : ∀ l : List Operand, (∀ y ∈ evList e l, y.one = true ∧ y.wf β.length) ∧ (evList e l).map (SV.val β) = l.map ρ
  | [] => ⟨(fun y hy => by cases hy), rfl⟩
  | x :: r => by
    obtain ⟨h1, h2⟩ := evList_ok he r
    obtain ⟨g1, g2, g3⟩ := he x
    refine ⟨fun y hy => ?_, by simp [evList, h2, g3]⟩
    rcases List.mem_cons.1 hy with rfl | hy
    · exact ⟨g1, g2⟩
    · exact h1 y hy

theorem calleeOf_sound (he : EvOk β ρ e) (hglob : ∀ f, ρ (.func f) = .func (.func f) #[] #[]) {o : Oper} {c : Call} (ho : o.op = .call c) {f : Nat} {args : List SV} (h : calleeOf c e = some (f, args)) :
    (∀ y ∈ args, y.one = true ∧ y.wf β.length) ∧ execOp ρ o = callFunc f (args.map (SV.val β)).toArray := by
  obtain ⟨g1, g2⟩ := evList_ok he c.args.toList
  have hargs : c.args.map ρ = ((evList e c.args.toList).map (SV.val β)).toArray := by
    rw [g2]; apply Array.ext'; simp
  unfold calleeOf at h
  split at h
  · rename_i f' hc
    cases h
    refine ⟨g1, ?_⟩
    simp only [execOp, ho, resolve, hc, hglob, Deferred.ofValue, hargs]
    simp [invoke]
  · rename_i x hne hc
    split at h
    · rename_i f' caps hx
      split at h
      · rename_i l hl
        cases h
        have hcw := (he x).2.1
        rw [hx] at hcw
        obtain ⟨k1, k2⟩ := rowList_sound caps l hcw hl
        refine ⟨fun y hy => (List.mem_append.1 hy).elim (g1 y) (k1 y), ?_⟩
        have hxv := (he x).2.2
        rw [hx] at hxv
        simp only [execOp, ho, resolve, hc, hxv, SV.val, SV.vals, List.headD_cons, Deferred.ofValue, hargs, k2]
        simp [invoke]
      · cases h
    · cases h
  · cases h

def xOper (C : Cfg) (call : Nat → SpecT) (o : Op) (e : Operand → SV) (hp : Hp) (K : SV → Hp → Prop) : Prop :=
  match kindOf C.P o with
  | .pure => xPure C.P C.zt o e fun v => K v hp
  | .read => xRead C.P C.zt o e hp fun v => K v hp
  | .act => xAct C.P C.zt o e hp K
  | .call => (match o with
    | .call c => (match calleeOf c e with
      | some (f, args) => call f args hp K
      | none => False)
    | _ => False)

theorem xOper_sound (hC : CfgOk C) {call : Nat → SpecT} (hcall : CallOk C.P call) {a : Act} (hS : Sat F β hp w) {o : Oper} (he : EvOk β a.eval e) {K : SV → Hp → Prop} {next : Act → World → Prop} {Q : Exit → Act → World → Prop}
    (h : xOper C call o.op e hp K) (hK : ∀ v w', Yld F β K v w' → next (a.put o.dst v) w') : o.wp C.P a w next Q := by
  unfold xOper at h
  split at h
  · obtain ⟨sv, h1, h2, h3, h4⟩ := xPure_sound hC.z he h
    unfold Oper.wp
    rw [h4 w]
    exact hK _ _ (yld_same hS h2 h3 rfl h1)
  · obtain ⟨sv, h1, h2, h3, h4⟩ := xRead_sound hC.z hS he h
    unfold Oper.wp
    rw [h4 w hS]
    exact hK _ _ (yld_same hS h2 h3 rfl h1)
  · obtain ⟨n, v, w', h1, h2, h3⟩ := xAct_sound hC.z hS he h
    unfold Oper.wp
    rw [h1]
    rcases h2 with rfl | ⟨rfl, rfl⟩
    · exact hK _ _ h3
    · exact hK _ _ h3
  · split at h
    · rename_i c ho
      split at h
      · rename_i f args hca
        obtain ⟨g1, g2⟩ := calleeOf_sound he (fun f => rfl) ho hca
        rcases hcall f with hcf | hcf
        · obtain ⟨k1, k2⟩ := hcf args hp K h
          unfold Oper.wp
          rw [g2, k1]
          refine (k2 F β w hS g1).mono ?_
          rintro en w' ⟨v, rfl, hy⟩
          exact hK v w' hy
        · obtain ⟨v, w', k1, k2⟩ := hcf args hp K h F β w hS g1
          unfold Oper.wp
          rw [g2, k1]
          exact hK v w' k2
      · exact h.elim
    · exact h.elim

/-! ### Guards -/

def dstOf (ops : Array Oper) (j : Nat) : Option Tmp := (ops[j]?).bind (·.dst)
def guardK (ops : Array Oper) (T : Tm) (g : Option (Nat × Bool)) (run skip : Tm → Prop) : Prop :=
  match g with
  | none => run T
  | some (j, want) => match dstOf ops j with
    | none => False
    | some t => match nth T t with
      | .bool (.lit b) => (match b, want with
        | true, true | false, false => run T
        | _, _ => skip T)
      | .bool (.v b) => (b = true → (bif want then run (setT T t (.bool (.lit true))) else skip (setT T t (.bool (.lit true))))) ∧
          (b = false → (bif want then skip (setT T t (.bool (.lit false))) else run (setT T t (.bool (.lit false)))))
      | .opq (.tuple _) => bif Nat.blt t T.n then skip T else False
      | _ => False

theorem nth_lt {T : Tm} {t : Nat} {x : SV} (h : nth T t = x) (hx : x ≠ .opq undef) : t < T.n ∧ look T.d t T.l = x := by
  unfold nth at h
  cases hb : Nat.blt t T.n <;> rw [hb] at h
  · exact absurd h.symm hx
  · exact ⟨blt_t hb, h⟩
theorem TOk.setSame {T : Tm} {a : Act} (h : TOk β T a) {t : Nat} {x y : SV} (hx : look T.d t T.l = x) (hy1 : y.one = true) (hy2 : y.wf β.length) (hv : y.val β = x.val β) : TOk β (setT T t y) a := by
  refine ⟨h.size, ?_, ?_, h.defers⟩
  · intro j hj
    simp only [setT, look]
    by_cases hjt : t = j
    · subst hjt; rw [beq_self]
      have := h.tmps t hj
      rw [this, hx]
      simp [hv]
    · rw [beq_ne hjt]; exact h.tmps j hj
  · intro j
    simp only [setT, look]
    by_cases hjt : t = j
    · subst hjt; rw [beq_self]; exact ⟨hy1, hy2⟩
    · rw [beq_ne hjt]; exact h.ok j

theorem guardK_sound {ops : Array Oper} {T : Tm} {a : Act} (hT : TOk β T a) {o : Oper} {run skip : Tm → Prop} (h : guardK ops T o.guard run skip) :
    ∃ T', TOk β T' a ∧ ((Region.wanted o (yielded ops a.tmps) = true ∧ run T') ∨ (Region.wanted o (yielded ops a.tmps) = false ∧ skip T')) := by
  unfold guardK at h
  split at h
  · rename_i hg
    exact ⟨T, hT, .inl ⟨by simp [Region.wanted, hg], h⟩⟩
  · rename_i j want hg
    split at h
    · exact h.elim
    · rename_i t ht
      have hyld : ∀ b : BE, nth T t = .bool b → yielded ops a.tmps j = some b.den ∧ look T.d t T.l = .bool b := by
        intro b hb
        have h1 := nth_lt hb (by intro h; cases h)
        refine ⟨?_, h1.2⟩
        have h2 : a.tmps[t]? = some (.bool b.den) := by rw [hT.tmps t h1.1, h1.2]; rfl
        unfold dstOf at ht
        simp only [yielded, ht, Option.bind_some, h2]
      split at h
      · rename_i b hb
        obtain ⟨h1, _⟩ := hyld _ hb
        have hw : Region.wanted o (yielded ops a.tmps) = (b == want) := by
          simp only [Region.wanted, hg, h1, BE.den]
          cases b <;> cases want <;> rfl
        refine ⟨T, hT, ?_⟩
        rw [hw]
        cases b <;> cases want <;> first | exact .inl ⟨rfl, h⟩ | exact .inr ⟨rfl, h⟩
      · rename_i b hb
        obtain ⟨h1, h2⟩ := hyld _ hb
        have hw : Region.wanted o (yielded ops a.tmps) = (b == want) := by
          simp only [Region.wanted, hg, h1, BE.den]
          cases b <;> cases want <;> rfl
        rw [hw]
        cases hb' : b
        · have h3 := h.2 hb'
          refine ⟨_, hT.setSame h2 (y := .bool (.lit false)) rfl trivial (by simp [val_bool, BE.den, hb']), ?_⟩
          cases want
          · exact .inl ⟨rfl, h3⟩
          · exact .inr ⟨rfl, h3⟩
        · have h3 := h.1 hb'
          refine ⟨_, hT.setSame h2 (y := .bool (.lit true)) rfl trivial (by simp [val_bool, BE.den, hb']), ?_⟩
          cases want
          · exact .inr ⟨rfl, h3⟩
          · exact .inl ⟨rfl, h3⟩
      · rename_i cs hb
        cases hlt : Nat.blt t T.n <;> rw [hlt] at h
        · exact h.elim
        · refine ⟨T, hT, .inr ⟨?_, h⟩⟩
          unfold nth at hb
          rw [hlt, cond_true] at hb
          have h2 : a.tmps[t]? = some (.tuple cs) := by rw [hT.tmps t (blt_t hlt), hb]; rfl
          unfold dstOf at ht
          simp [Region.wanted, hg, yielded, ht, h2]
      · exact h.elim

/-! ### In the order of the text -/

/-- The frame and the heap, some blocks later. -/
def Post (F : Fr) (β : List Nat) (K : Tm → Hp → Prop) (a : Act) (w : World) : Prop :=
  ∃ γ T hp, TOk (β ++ γ) T a ∧ Sat F (β ++ γ) hp w ∧ K T hp
theorem Post.later {K : Tm → Hp → Prop} {a : Act} {γ : List Nat} (h : Post F (β ++ γ) K a w) : Post F β K a w := by
  obtain ⟨δ, T, hp, h1, h2, h3⟩ := h
  exact ⟨γ ++ δ, T, hp, by rw [← List.append_assoc]; exact h1, by rw [← List.append_assoc]; exact h2, h3⟩
/-- Ends in the usual way alone. -/
def Qn (R : Act → World → Prop) : Exit → Act → World → Prop
  | .normal, a, w => R a w
  | _, _, _ => False

def xOps (C : Cfg) (call : Nat → SpecT) (ops : Array Oper) : List Oper → Tm → Hp → (Tm → Hp → Prop) → Prop
  | [], T, hp, K => K T hp
  | o :: rest, T, hp, K =>
    guardK ops T o.guard
      (fun T => xOper C call o.op (ev T) hp fun v hp' => xOps C call ops rest (putT T o.dst v) hp' K)
      (fun T => xOps C call ops rest (putT T o.dst (.opq undef)) hp K)

theorem xOps_sound (hC : CfgOk C) {call : Nat → SpecT} (hcall : CallOk C.P call) {ops : Array Oper} {R : Act → World → Prop} : ∀ (l : List Oper) (β : List Nat) (T : Tm) (hp : Hp) (a : Act) (w : World) (K : Tm → Hp → Prop),
    TOk β T a → Sat F β hp w → xOps C call ops l T hp K → (∀ a w, Post F β K a w → R a w) → wpList C.P ops (Qn R) l a w := by
  intro l
  induction l with
  | nil =>
    intro β T hp a w K hT hS h hR
    exact hR _ _ ⟨[], T, hp, by simpa using hT, by simpa using hS, h⟩
  | cons o rest ih =>
    intro β T hp a w K hT hS h hR
    simp only [xOps] at h
    obtain ⟨T', hT', hg⟩ := guardK_sound hT h
    simp only [wpList]
    rcases hg with ⟨hw, hr⟩ | ⟨hw, hs⟩
    · rw [if_pos hw]
      refine .inl (xOper_sound hC hcall hS hT'.ev hr fun v w' hy => ?_)
      obtain ⟨γ, sv, hp', k1, k2, k3, rfl, k5⟩ := hy
      exact ih (β ++ γ) _ hp' (a.put o.dst (sv.val (β ++ γ))) w' K ((hT'.append (γ := γ)).put o.dst k2 k3) k1 k5 fun a w h => hR a w h.later
    · rw [if_neg (by rw [hw]; simp)]
      exact ih β _ hp _ w K (hT'.put o.dst (x := .opq undef) rfl trivial) hS hs hR

/-! ### In whatever order: all operations leave the world as it is -/

/-- A call that leaves memory as it was. -/
def isQ (qs : List Nat) (o : Op) : Bool :=
  match o with
  | .call c => (match c.callee with
    | .value (.func f) => qs.any (Nat.beq f)
    | _ => false)
  | _ => false
def xQop (C : Cfg) (o : Op) (e : Operand → SV) (hp : Hp) (K : SV → Prop) : Prop :=
  match kindOf C.P o with
  | .pure => xPure C.P C.zt o e K
  | .read => xRead C.P C.zt o e hp K
  | .act => False
  | .call => (match o with
    | .call c => (match calleeOf c e with
      | some (f, args) => C.qcall f args hp K
      | none => False)
    | _ => False)

theorem xQop_sound (hC : CfgOk C) {a : Act} (hS : Sat F β hp w) {o : Oper} (he : EvOk β a.eval e) {K : SV → Prop} (h : xQop C o.op e hp K) :
    ∃ sv, K sv ∧ sv.one = true ∧ sv.wf β.length ∧ ∀ w', Ext w w' → o.quietAt C.P a (Ext w) w' (sv.val β) := by
  unfold xQop at h
  split at h
  · obtain ⟨sv, h1, h2, h3, h4⟩ := xPure_sound hC.z he h
    refine ⟨sv, h1, h2, h3, fun w' _ => ?_⟩
    unfold Oper.quietAt
    rw [h4 w']
    exact ⟨rfl, rfl⟩
  · obtain ⟨sv, h1, h2, h3, h4⟩ := xRead_sound hC.z hS he h
    refine ⟨sv, h1, h2, h3, fun w' hw' => ?_⟩
    unfold Oper.quietAt
    rw [h4 w' (hS.extend hw')]
    exact ⟨rfl, rfl⟩
  · exact h.elim
  · split at h
    · rename_i c ho
      split at h
      · rename_i f args hca
        obtain ⟨g1, g2⟩ := calleeOf_sound he (fun f => rfl) ho hca
        obtain ⟨k1, k2⟩ := hC.qcall f args hp K h
        obtain ⟨sv, h1, h2, h3, h4⟩ := k2 F β w hS g1
        refine ⟨sv, h1, h2, h3, fun w' hw' => ?_⟩
        unfold Oper.quietAt
        rw [g2, k1]
        exact ⟨rfl, (h4 w' (hS.extend hw')).mono fun en w'' ⟨h5, h6⟩ => ⟨h5, hw'.trans h6⟩⟩
      · exact h.elim
    · exact h.elim

def xQops (C : Cfg) (ops : Array Oper) : List Oper → Tm → Hp → (Tm → Prop) → Prop
  | [], T, _, K => K T
  | o :: rest, T, hp, K =>
    guardK ops T o.guard
      (fun T => xQop C o.op (ev T) hp fun v => xQops C ops rest (putT T o.dst v) hp K)
      (fun T => xQops C ops rest (putT T o.dst (.opq undef)) hp K)

theorem xQops_sound (hC : CfgOk C) {ops : Array Oper} (hS : Sat F β hp w) {R : Act → Prop} : ∀ (l : List Oper) (T : Tm) (a : Act) (K : Tm → Prop),
    TOk β T a → xQops C ops l T hp K → (∀ T a, TOk β T a → K T → R a) → wpQuiet C.P ops (Ext w) R l a := by
  intro l
  induction l with
  | nil => intro T a K hT h hR; exact hR T a hT h
  | cons o rest ih =>
    intro T a K hT h hR
    simp only [xQops] at h
    obtain ⟨T', hT', hg⟩ := guardK_sound hT h
    simp only [wpQuiet]
    rcases hg with ⟨hw, hr⟩ | ⟨hw, hs⟩
    · rw [if_pos hw]
      obtain ⟨sv, h1, h2, h3, h4⟩ := xQop_sound hC hS hT'.ev hr
      exact ⟨sv.val β, h4, ih _ _ K (hT'.put o.dst h2 h3) h1 hR⟩
    · rw [if_neg (by rw [hw]; simp)]
      exact ih _ _ K (hT'.put o.dst (x := .opq undef) rfl trivial) hs hR

/-! ### In whatever order: operations that leave the world as it is, then others one behind the other -/

/-- An operation that only computes or reads. -/
def xSop (C : Cfg) (o : Op) (e : Operand → SV) (hp : Hp) (K : SV → Prop) : Prop :=
  match kindOf C.P o with
  | .pure => xPure C.P C.zt o e K
  | .read => xRead C.P C.zt o e hp K
  | _ => False
def xSops (C : Cfg) (ops : Array Oper) : List Oper → Tm → Hp → (Tm → Prop) → Prop
  | [], T, _, K => K T
  | o :: rest, T, hp, K =>
    guardK ops T o.guard
      (fun T => xSop C o.op (ev T) hp fun v => xSops C ops rest (putT T o.dst v) hp K)
      (fun T => xSops C ops rest (putT T o.dst (.opq undef)) hp K)
theorem xSops_sound (hC : CfgOk C) {ops : Array Oper} (hS : Sat F β hp w) {R : Act → Prop} : ∀ (l : List Oper) (T : Tm) (a : Act) (K : Tm → Prop),
    TOk β T a → xSops C ops l T hp K → (∀ T a, TOk β T a → K T → R a) → wpStill C.P ops w R l a := by
  intro l
  induction l with
  | nil => intro T a K hT h hR; exact hR T a hT h
  | cons o rest ih =>
    intro T a K hT h hR
    simp only [xSops] at h
    obtain ⟨T', hT', hg⟩ := guardK_sound hT h
    simp only [wpStill]
    rcases hg with ⟨hw, hr⟩ | ⟨hw, hs⟩
    · rw [if_pos hw]
      unfold xSop at hr
      split at hr
      · obtain ⟨sv, h1, h2, h3, h4⟩ := xPure_sound hC.z hT'.ev hr
        unfold Oper.still
        rw [h4 w]
        exact ⟨rfl, ih _ _ K (hT'.put o.dst h2 h3) h1 hR⟩
      · obtain ⟨sv, h1, h2, h3, h4⟩ := xRead_sound hC.z hS hT'.ev hr
        unfold Oper.still
        rw [h4 w hS]
        exact ⟨rfl, ih _ _ K (hT'.put o.dst h2 h3) h1 hR⟩
      · exact hr.elim
    · rw [if_neg (by rw [hw]; simp)]
      exact ih _ _ K (hT'.put o.dst (x := .opq undef) rfl trivial) hs hR

end
end Vx
end
section
/- Operations that leave all memory as it was: whatever their operands are. -/
namespace Vx
open Go

def Mild {α : Type} (s : Sem α) : Prop := ∀ (P : Program) (w : World) (a : α) (w' : World), s.run P w = .ok a w' → Ext w w'

section
variable {α β : Type}
theorem mild_pure (a : α) : Mild (Pure.pure a : Sem α) := by
  intro P w b w' h
  simp at h
  obtain ⟨_, rfl⟩ := h
  exact Ext.refl _
theorem mild_bind {s : Sem α} {f : α → Sem β} (hs : Mild s) (hf : ∀ a, Mild (f a)) : Mild (s >>= f) := by
  intro P w b w' h
  simp only [Sem.run_bind] at h
  cases hr : s.run P w with
  | ok a w1 => rw [hr] at h; exact (hs P w a w1 hr).trans (hf a P w1 b w' h)
  | halt x w1 => rw [hr] at h; cases h
theorem mild_halt (x : Halt) : Mild (Sem.halt x : Sem α) := by intro P w b w' h; cases h
theorem mild_stuck (s : String) : Mild (stuck s : Sem α) := mild_halt _
theorem mild_unsupported (u : Unsupported) : Mild (unsupported u : Sem α) := mild_halt _
theorem mild_goPanic (v : Value) : Mild (goPanic v : Sem α) := mild_halt _
theorem mild_load (a : Addr) : Mild (load a) := by
  intro P w b w' h
  simp only [run_load] at h
  split at h
  · cases h; exact Ext.refl _
  · split at h
    · cases h; exact Ext.refl _
    · cases h
theorem mild_new (o : Obj) : Mild (newObj o) := by
  intro P w b w' h
  simp only [run_newObj] at h
  cases h
  refine ⟨⟨rfl, rfl, rfl⟩, fun b x hb => ?_⟩
  have hlt := (Array.getElem?_eq_some_iff.1 hb).1
  show (w.heap.push o)[b]? = some x
  rw [Array.getElem?_push_lt hlt, ← hb]
  exact (Array.getElem?_eq_getElem hlt).symm
theorem mild_program : Mild program := by intro P w b w' h; cases h; exact Ext.refl _
theorem mild_shape (r : Nat) : Mild (shape r) := by intro P w b w' h; cases h; exact Ext.refl _
theorem mild_frozen (a : Addr) : Mild (frozen a) := by intro P w b w' h; cases h; exact Ext.refl _
theorem mild_choose (q : Question) : Mild (choose q) := by
  intro P w b w' h
  simp only [run_choose] at h
  split at h <;> cases h
  · exact Ext.refl _
  · exact ⟨⟨rfl, rfl, rfl⟩, fun _ _ h => h⟩
theorem mild_getObj (r : Nat) : Mild (getObj r) := by
  intro P w b w' h
  simp only [getObj, Sem.run] at h
  split at h <;> cases h
  exact Ext.refl _
theorem mild_ite {c : Prop} [Decidable c] {s t : Sem α} (hs : Mild s) (ht : Mild t) : Mild (if c then s else t) := by
  split
  · exact hs
  · exact ht
theorem mild_askRoom (n : Nat) : Mild (askRoom n) := by
  intro P w b w' h
  simp only [run_askRoom] at h
  cases h; exact Ext.refl _
end

theorem mild_typeInfo (t : TypeId) : Mild (typeInfo t) := by
  unfold typeInfo
  refine mild_bind mild_program fun p => ?_
  split
  · exact mild_pure _
  · exact mild_stuck _
theorem mild_underlying (t : TypeId) : Mild (underlying t) := by
  unfold underlying
  refine mild_bind mild_program fun p => ?_
  split
  · exact mild_pure _
  · exact mild_stuck _
theorem mild_sizeOf (t : TypeId) : Mild (Go.sizeOf t) := by
  unfold Go.sizeOf
  exact mild_bind (mild_typeInfo t) fun _ => mild_pure _
theorem mild_zeroValue (t : TypeId) : Mild (zeroValue t) := by
  unfold zeroValue
  refine mild_bind (mild_typeInfo t) fun i => ?_
  split
  · exact mild_pure _
  · exact mild_unsupported _
theorem mild_isAgg (t : TypeId) : Mild (isAgg t) := by
  unfold isAgg
  refine mild_bind (mild_underlying t) fun d => ?_
  split <;> exact mild_pure _
theorem mild_loadCellsFrom (a : Addr) : ∀ (n i : Nat) (acc : Array Value), Mild (loadCellsFrom a i n acc)
  | 0, i, acc => mild_pure _
  | n + 1, i, acc => mild_bind (mild_load _) fun v => mild_loadCellsFrom a n (i + 1) _
theorem mild_loadCells (a : Addr) (n : Nat) : Mild (loadCells a n) := mild_loadCellsFrom a n 0 _
theorem mild_loadVar (t : TypeId) (a : Addr) : Mild (loadVar t a) := by
  unfold loadVar
  refine mild_bind (mild_isAgg t) fun b => ?_
  split
  · exact mild_bind (mild_sizeOf t) fun n => mild_bind (mild_loadCells a n) fun _ => mild_pure _
  · exact mild_load a
theorem mild_sureAddr (v : Value) : Mild (Instr.sureAddr v) := by
  unfold Instr.sureAddr
  split
  · exact mild_pure _
  · exact mild_stuck _
theorem mild_newRow (t : TypeId) (c : Array Value) : Mild (newRow t c) := by
  unfold newRow
  exact mild_bind (mild_new _) fun _ => mild_pure _

/-- Operations of which it is known, whatever they are given. -/
def mildOp (o : Op) : Bool :=
  match o with
  | .move _ | .assign _ | .pick .. | .load .. | .box .. | .alloc _ | .extract .. => true
  | .call c => (match c.callee, c.argTypes.toList, c.args.toList with
    | .builtin .len, [_], [_] => true
    | _, _, _ => false)
  | _ => false

theorem mild_len (t ty : TypeId) (x : Value) : Mild (Builtin.len_ #[t] ty #[x]) := by
  unfold Builtin.len_
  refine mild_bind (mild_underlying t) fun d => ?_
  split
  · exact mild_pure _
  · exact mild_pure _
  · refine mild_bind (mild_underlying _) fun d => ?_
    split
    · exact mild_pure _
    · exact mild_stuck _
  · exact mild_pure _
  · exact mild_pure _
  · exact mild_pure _
  · refine mild_bind (mild_getObj _) fun d => ?_
    split
    · exact mild_pure _
    · exact mild_stuck _
  · refine mild_bind (mild_getObj _) fun d => ?_
    split
    · exact mild_pure _
    · exact mild_stuck _
  · exact mild_stuck _

theorem mildOp_sound {P : Program} {o : Oper} (h : mildOp o.op = true) (ρ : Operand → Value) {w w' : World} {n : Next} (hr : (execOp ρ o).run P w = .ok n w') : Ext w w' ∧ ∃ v, n = .value v := by
  have val : ∀ s : Sem Value, execOp ρ o = (do pure (Next.value (← s))) → Mild s → Ext w w' ∧ ∃ v, n = .value v := by
    intro s hs hm
    rw [hs] at hr
    simp only [Sem.run_bind] at hr
    cases h1 : s.run P w with
    | ok a w1 =>
      rw [h1] at hr
      simp at hr
      obtain ⟨rfl, rfl⟩ := hr
      exact ⟨hm P w a w1 h1, _, rfl⟩
    | halt x w1 => rw [h1] at hr; cases hr
  unfold mildOp at h
  split at h
  · rename_i x ho
    simp only [execOp, ho] at hr
    cases hr; exact ⟨Ext.refl _, _, rfl⟩
  · rename_i x ho
    simp only [execOp, ho] at hr
    cases hr; exact ⟨Ext.refl _, _, rfl⟩
  · rename_i c a b ho
    refine val (do pure (if ← asBool (ρ c) then ρ a else ρ b)) (by simp only [execOp, ho]; simp) ?_
    refine mild_bind ?_ fun _ => mild_pure _
    unfold asBool
    split
    · exact mild_pure _
    · exact mild_stuck _
  · rename_i t a ho
    exact val (Instr.loadAt t (ρ a)) (by simp only [execOp, ho]) (by unfold Instr.loadAt; exact mild_bind (mild_sureAddr _) fun _ => mild_loadVar _ _)
  · rename_i t x ho
    exact val (Instr.box t (ρ x)) (by simp only [execOp, ho]) (by unfold Instr.box; exact mild_bind (mild_newRow _ _) fun _ => mild_pure _)
  · rename_i t ho
    refine val (Instr.alloc t true (.tuple #[])) (by simp only [execOp, ho]) ?_
    unfold Instr.alloc
    refine mild_bind (mild_zeroValue _) fun z => ?_
    exact mild_bind (mild_newRow _ _) fun _ => mild_pure _
  · rename_i t i ho
    refine val (Instr.extract (ρ t) i) (by simp only [execOp, ho]) ?_
    unfold Instr.extract
    split
    · split
      · exact mild_pure _
      · exact mild_stuck _
    · exact mild_stuck _
  · rename_i c ho
    split at h
    · rename_i t x hc ht hx
      refine val _ ?_ (mild_len t o.type (ρ x))
      rw [run_builtin ho hc, toList_one ht, toList_one hx]
      simp only [builtin, List.map_toArray, List.map_cons, List.map_nil]
    · cases h
  · cases h
end Vx
end
