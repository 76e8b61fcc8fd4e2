/- copy; maps that are looked into and written. -/
import Derived.Test.YtafngdeeachggaaGreatVxApp3
set_option linter.unusedVariables false
set_option linter.unusedSimpArgs false
namespace Vx
open Go

def minN (a b : NE) : NE :=
  match a, b with
  | .lit x, .lit y => .lit (bif Nat.ble x y then x else y)
  | a, b => .v (Nat.min a.den b.den)
theorem minN_den (a b : NE) : (minN a b).den = Nat.min a.den b.den := by
  unfold minN
  split
  · rename_i x y
    cases hb : Nat.ble x y
    · have : ¬ x ≤ y := fun h' => by rw [Nat.ble_eq_true_of_le h'] at hb; cases hb
      simp only [NE.den, cond_false]
      show y = min x y
      omega
    · have := Nat.le_of_ble_eq_true hb
      simp only [NE.den, cond_true]
      show x = min x y
      omega
  · rfl

/-- Cells put into a row one by one. -/
def rowSets : SV → Nat → SV → (SV → Prop) → Prop
  | l, _, .nil, K => K l
  | l, o, .cons h t, K => bif h.one then rowSet l o none h fun l' => rowSets l' (o + 1) t K else False
  | _, _, _, _ => False

section
variable {P : Program} {F : Fr} {β : List Nat} {hp : Hp} {w : World} {zt : List (TypeId × SV)} {K : SV → Hp → Prop}

theorem rowSets_sound : ∀ (r l : SV) (o : Nat) (K : SV → Prop), l.wf β.length → r.wf β.length → rowSets l o r K →
    ∃ l' pre old post, K l' ∧ l'.wf β.length ∧ l.vals β = pre ++ old ++ post ∧ l'.vals β = pre ++ r.vals β ++ post ∧ pre.length = min o (l.vals β).length ∧ old.length = (r.vals β).length := by
  intro r
  induction r with
  | nil =>
    intro l o K hl _ h
    exact ⟨l, (l.vals β).take o, [], (l.vals β).drop o, h, hl, by simp, by simp [SV.vals], by simp, rfl⟩
  | cons a t _ iht =>
    intro l o K hl hr h
    simp only [rowSets] at h
    cases h1 : a.one <;> rw [h1] at h
    · exact h.elim
    · obtain ⟨l1, k1, k2, k3, k4⟩ := rowSet_sound β a h1 hr.1 l o none _ hl h
      simp only [iD, Option.getD_none, Nat.add_zero] at k3 k4
      obtain ⟨l', pre, old, post, hK, hw, e1, e2, e3, e4⟩ := iht l1 (o + 1) K k2 hr.2 k1
      have hlen1 : (l1.vals β).length = (l.vals β).length := by rw [k3]; simp
      rw [hlen1] at e3
      have hpre : pre.length = o + 1 := by rw [e3]; omega
      have hall : l.vals β = (l.vals β).take o ++ [(l.vals β)[o]] ++ (l.vals β).drop (o + 1) := by
        rw [List.append_assoc, List.singleton_append, List.getElem_cons_drop, List.take_append_drop]
      have h5 : l1.vals β = (l.vals β).take o ++ [a.val β] ++ (l.vals β).drop (o + 1) := by
        rw [k3, List.set_eq_take_append_cons_drop]; simp [k4]
      have h6 : pre = (l.vals β).take o ++ [a.val β] ∧ old ++ post = (l.vals β).drop (o + 1) := by
        have : pre ++ (old ++ post) = ((l.vals β).take o ++ [a.val β]) ++ (l.vals β).drop (o + 1) := by rw [← h5, e1]; simp
        exact List.append_inj this (by simp; omega)
      refine ⟨l', (l.vals β).take o, [(l.vals β)[o]] ++ old, post, hK, hw, ?_, ?_, by simp, ?_⟩
      · conv => lhs; rw [hall, ← h6.2]
        simp only [List.append_assoc]
      · rw [e2, h6.1, SV.vals, SV.vals_one β h1]; simp only [List.append_assoc]
      · rw [SV.vals, SV.vals_one β h1]; simp [e4]
  | _ => intro l o K _ _ h; exact h.elim

/-- Some cells of a row over others, by whichever way serves. -/
def copyOver (l r : SV) (o n : NE) (K : SV → Prop) : Prop :=
  match o, n with
  | .lit o, .lit n => (match rowCut r n with
    | some (r1, _) => (match (match rowCut l o with
        | some (p, q) => (match rowCut q n with
          | some (_, s) => some (p.app (r1.app s))
          | none => none)
        | none => none) with
      | some l' => K l'
      | none => rowSets l o r1 K)
    | none => False)
  | o, n => (match l, r with
    | .cons (.run k m xs) t, .cons (.run k' _ ys) .nil => bif decide (k = k') then
        leN (addN o n) m <| ∀ zs : List Int, zs = xs.den.take o.den ++ ys.den.take n.den ++ xs.den.drop (o.den + n.den) → K (.cons (.run k m (.list zs)) t)
      else False
    | _, _ => False)

theorem copyOver_sound {l r : SV} {o n : NE} {K : SV → Prop} (hl : l.wf β.length) (hr : r.wf β.length) (hn : n.den ≤ (r.vals β).length) (ho : o.den ≤ (l.vals β).length) (h : copyOver l r o n K) :
    ∃ l' pre old post, K l' ∧ l'.wf β.length ∧ l.vals β = pre ++ old ++ post ∧ l'.vals β = pre ++ (r.vals β).take n.den ++ post ∧ pre.length = o.den ∧ old.length = n.den := by
  unfold copyOver at h
  split at h
  · rename_i o n
    split at h
    · rename_i r1 r2 hrc
      obtain ⟨a1, a2, a3, a4⟩ := rowCut_sound β r n _ _ hr hrc
      have htake : (r.vals β).take n = r1.vals β := by rw [a1]; simp [← a2]
      simp only [NE.den] at *
      rw [htake]
      split at h
      · rename_i l' hc
        split at hc
        · rename_i p q hpq
          split at hc
          · rename_i m s hms
            cases hc
            obtain ⟨e1, e2, e3, e4⟩ := rowCut_sound β l o _ _ hl hpq
            obtain ⟨f1, f2, f3, f4⟩ := rowCut_sound β q n _ _ e4 hms
            exact ⟨_, p.vals β, m.vals β, s.vals β, h, SV.app_wf _ _ _ e3 (SV.app_wf _ _ _ a3 f4), by rw [e1, f1]; simp, by simp [SV.app_vals], e2, f2⟩
          · cases hc
        · cases hc
      · obtain ⟨l', pre, old, post, g1, g2, g3, g4, g5, g6⟩ := rowSets_sound r1 l o K hl a3 h
        exact ⟨l', pre, old, post, g1, g2, g3, g4, by omega, by omega⟩
    · exact h.elim
  · split at h
    · rename_i k m xs t k' m' ys
      cases hd : decide (k = k') <;> rw [hd] at h
      · exact h.elim
      · have := of_decide_eq_true hd
        subst this
        obtain ⟨hle, h⟩ := leN_sound h
        rw [addN_den] at hle
        have h1 : xs.den.length = m.den := hl.1
        have h2 : ys.den.length = m'.den := hr.1
        have h3 : n.den ≤ ys.den.length := by simpa [SV.vals] using hn
        refine ⟨_, (xs.den.take o.den).map (.int k), ((xs.den.drop o.den).take n.den).map (.int k), (xs.den.drop (o.den + n.den)).map (.int k) ++ t.vals β, h _ rfl, ⟨?_, hl.2⟩, ?_, ?_, ?_, ?_⟩
        · show (xs.den.take o.den ++ ys.den.take n.den ++ xs.den.drop (o.den + n.den)).length = m.den
          simp; omega
        · show xs.den.map (Value.int k) ++ t.vals β = _
          have : xs.den = xs.den.take o.den ++ ((xs.den.drop o.den).take n.den ++ xs.den.drop (o.den + n.den)) := by
            rw [← List.drop_drop, List.take_append_drop, List.take_append_drop]
          conv => lhs; rw [this]
          simp
        · show (xs.den.take o.den ++ ys.den.take n.den ++ xs.den.drop (o.den + n.den)).map (Value.int k) ++ t.vals β = _
          simp [SV.vals, List.map_take]
        · simp; omega
        · simp; omega
    · exact h.elim

def xCopy (P : Program) (t tx : TypeId) (d x : SV) (hp : Hp) (K : SV → Hp → Prop) : Prop :=
  match P.underlying t with
  | some (.slice el) => (match P.info? el with
    | some inf => bif Nat.beq inf.size 1 then xSrc P tx 1 x hp fun r m => (match d with
      | .nilslice => K (.int .i64 (.lit 0)) hp
      | .slice id off len _ => (match ownRow id hp with
        | some (l, e, z) => leN (offN off) l.widN <| copyOver l r (offN off) (minN m len) fun l' => K (.int .i64 (minN m len).i) { hp with H := setH id (.cells l' e z) hp.H }
        | none => False)
      | _ => False) else False
    | none => False)
  | _ => False

theorem xCopy_sound (hS : Sat F β hp w) {t tx ty : TypeId} {d x : SV} (h : xCopy P t tx d x hp K) : Runs P F β w (Builtin.copy_ #[t, tx] ty #[d.val β, x.val β]) K := by
  unfold xCopy at h
  split at h
  · rename_i el hd
    split at h
    · rename_i inf hinf
      cases hb : Nat.beq inf.size 1 <;> rw [hb] at h
      · exact h.elim
      · have hsz := beq_t hb
        simp only [cond_true] at h
        obtain ⟨r, m, h, hsrc⟩ := xSrc_sound hS h
        have hlen := hsrc.src.len w
        have hnl := hsrc.src.newsLen
        split at h
        · refine runs_pure hS (sv := .int .i64 (.lit 0)) (v := .int .i64 0) ?_ rfl trivial rfl h
          have hp0 := hsrc.part 0 (Nat.zero_le _)
          show (Builtin.copy_ #[t, tx] ty #[.slice none 0 0, x.val β]).run P w = _
          simp [Builtin.copy_, run_underlying hd, hlen, Go.sizeOf, typeInfo, hinf, hsz, hp0, goInt]
        · rename_i id off len cap _
          split at h
          · rename_i l e z hg
            have hown := ownRow_get hg
            obtain ⟨g1, g2, g3⟩ := hS.row (ownRow_row hg)
            obtain ⟨c1, h⟩ := leN_sound h
            rw [offN_den, ← SV.widN_len (β := β) l g2] at c1
            have hmin := minN_den m len
            have hmle : (minN m len).den ≤ m.den := by rw [hmin]; exact Nat.min_le_left _ _
            obtain ⟨l', pre, old, post, hK, k1, k2, k3, k4, k5⟩ := copyOver_sound g2 hsrc.wf (n := minN m len) (by omega) (by rw [offN_den]; exact c1) h
            rw [offN_den] at k4
            have hpart := hsrc.part (minN m len).den hmle
            rw [Nat.mul_one] at hpart
            rw [k2] at g3
            obtain ⟨w', r1, r2, r3, r4⟩ := run_storeCells_row (P := P) ((r.vals β).take (minN m len).den) 0 w (blk β id) off.den e pre old post z g3 (by omega) (by rw [k5, List.length_take]; omega)
              (fun v hv => hsrc.cells v (List.mem_of_mem_take hv))
            rw [← k3] at r2
            refine ⟨.int .i64 (minN m len).den, w', ?_, [], .int .i64 (minN m len).i, _, by simpa using hS.set hown (o' := .cells l' e z) k1 r4 r2 r3, rfl, trivial, by simp [SV.val, SV.vals, NE.i_den], hK⟩
            show (Builtin.copy_ #[t, tx] ty #[.slice (some ⟨blk β id, off.den, none⟩) len.den cap.den, x.val β]).run P w = _
            simp [Builtin.copy_, run_underlying hd, hlen, Go.sizeOf, typeInfo, hinf, hsz, ← hmin, hpart, r1, goInt]
          · exact h.elim
        · exact h.elim
    · exact h.elim
  · exact h.elim

/-! ### Maps -/

/-- Are two keys alike? A literal answer, or one that is told by a Bool. -/
def keyEq (kd : TypeDesc) (a b : SV) : Option BE :=
  match kd, a, b with
  | .int _, .int k x, .int k' y => bif decide (k = k') then (match x, y with
      | .lit x, .lit y => some (.lit (x == y))
      | x, y => some (.v (x.den == y.den))) else none
  | _, _, _ => none
theorem keyEq_sound {kd : TypeDesc} {a b : SV} {e : BE} (h : keyEq kd a b = some e) : Instr.sameNow kd (a.val β) (b.val β) = some e.den ∧ (e.den = true → a.val β = b.val β ∧ (∀ n, Instr.sameBits n (b.val β) (a.val β) = true)) := by
  unfold keyEq at h
  split at h
  · rename_i kk k x k' y
    cases hd : decide (k = k') <;> rw [hd] at h
    · cases h
    · have := of_decide_eq_true hd
      subst this
      simp only [cond_true] at h
      have hval : ∀ e : BE, e.den = (x.den == y.den) → Instr.sameNow (.int kk) ((SV.int k x).val β) ((SV.int k y).val β) = some e.den ∧ (e.den = true → (SV.int k x).val β = (SV.int k y).val β ∧ (∀ n, Instr.sameBits n ((SV.int k y).val β) ((SV.int k x).val β) = true)) := by
        intro e he
        refine ⟨by simp [val_int, Instr.sameNow, he], fun ht => ?_⟩
        rw [he] at ht
        have : x.den = y.den := by simpa using ht
        refine ⟨by simp [val_int, this], fun n => by cases n <;> simp [val_int, Instr.sameBits, this]⟩
      split at h <;> cases h <;> exact hval _ rfl
  · cases h

/-- Looks for a key: where it is found, with what; or that it is not. -/
def findK (kd : TypeDesc) (key : SV) : List (SV × SV × Nat) → Nat → (Nat → SV → Prop) → Prop → Prop
  | [], _, _, no => no
  | (k, v, _) :: r, i, yes, no =>
    match keyEq kd key k with
    | some (.lit true) => yes i v
    | some (.lit false) => findK kd key r (i + 1) yes no
    | some (.v b) => (b = true → yes i v) ∧ (b = false → findK kd key r (i + 1) yes no)
    | none => False

theorem findK_sound {kd : TypeDesc} {key : SV} : ∀ (es : List (SV × SV × Nat)) (i : Nat) (yes : Nat → SV → Prop) (no : Prop), findK kd key es i yes no →
    (Instr.findNow kd (key.val β) (es.map (entD β)) i = some none ∧ no) ∨
    (∃ j e, es[j]? = some e ∧ yes (i + j) e.2.1 ∧ Instr.findNow kd (key.val β) (es.map (entD β)) i = some (some (i + j, e.2.1.val β)) ∧ (key.val β = e.1.val β ∧ ∀ n, Instr.sameBits n (e.1.val β) (key.val β) = true))
  | [], i, yes, no, h => .inl ⟨rfl, h⟩
  | (k, v, c) :: r, i, yes, no, h => by
    simp only [findK] at h
    have found : ∀ e : BE, keyEq kd key k = some e → e.den = true → yes i v →
        (∃ j e, ((k, v, c) :: r)[j]? = some e ∧ yes (i + j) e.2.1 ∧ Instr.findNow kd (key.val β) (((k, v, c) :: r).map (entD β)) i = some (some (i + j, e.2.1.val β)) ∧ (key.val β = e.1.val β ∧ ∀ n, Instr.sameBits n (e.1.val β) (key.val β) = true)) := by
      intro e he hd hy
      obtain ⟨h1, h2⟩ := keyEq_sound (β := β) he
      exact ⟨0, _, rfl, hy, by simp [Instr.findNow, entD, h1, hd], h2 hd⟩
    have next : ∀ e : BE, keyEq kd key k = some e → e.den = false → findK kd key r (i + 1) yes no → _ := fun e he hd hr => by
      obtain ⟨h1, _⟩ := keyEq_sound (β := β) he
      have hstep : Instr.findNow kd (key.val β) (((k, v, c) :: r).map (entD β)) i = Instr.findNow kd (key.val β) (r.map (entD β)) (i + 1) := by simp [Instr.findNow, entD, h1, hd]
      have := findK_sound r (i + 1) yes no hr
      rw [← hstep] at this
      exact (this.imp (fun h => h) (fun ⟨j, e, g1, g2, g3, g4⟩ => ⟨j + 1, e, by simpa using g1, by rw [show i + (j + 1) = i + 1 + j from by omega]; exact g2, by rw [g3, show i + (j + 1) = i + 1 + j from by omega], g4⟩) :
        (Instr.findNow kd (key.val β) (((k, v, c) :: r).map (entD β)) i = some none ∧ no) ∨ (∃ j e, ((k, v, c) :: r)[j]? = some e ∧ yes (i + j) e.2.1 ∧ Instr.findNow kd (key.val β) (((k, v, c) :: r).map (entD β)) i = some (some (i + j, e.2.1.val β)) ∧ (key.val β = e.1.val β ∧ ∀ n, Instr.sameBits n (e.1.val β) (key.val β) = true)))
    split at h
    · rename_i hk
      exact .inr (found _ hk rfl h)
    · rename_i hk
      exact next _ hk rfl h
    · rename_i b hk
      cases hb : b
      · exact next _ hk hb (h.2 hb)
      · exact .inr (found _ hk hb (h.1 hb))
    · exact h.elim

def keyD (d : TypeDesc) : Bool :=
  match d with
  | .int _ => true
  | _ => false
theorem run_checkKey {kd : TypeDesc} {t : TypeId} (h : P.underlying t = some kd) (hk : keyD kd = true) (b : Bool) (v : Value) (w : World) : (Instr.checkKey b 10000 t v).run P w = .ok () w := by
  suffices key : ∀ n, (Instr.checkKey b (n + 1) t v).run P w = .ok () w from key 9999
  intro n
  simp only [Instr.checkKey, Sem.run_bind, run_underlying h, Result.andThen_ok]
  cases kd <;> first | rfl | cases hk

def zval (P : Program) (zt : List (TypeId × SV)) (t : TypeId) : Option SV :=
  match tyOf P t, zrow P zt t with
  | some (true, _), some r => some (.agg r)
  | some (false, _), _ => (match P.info? t with
    | some i => i.zero.map ofV
    | none => none)
  | _, _ => none

/-- Is the zero value of a struct or an array one of cells? -/
def aggZ (P : Program) (t : TypeId) : Bool :=
  match P.info? t with
  | some i => (match i.zero with
    | some (.agg _) => true
    | _ => false)
  | none => false
def zvalK (P : Program) (zt : List (TypeId × SV)) (t : TypeId) : Option SV :=
  match P.info? t with
  | some i => (match i.zero with
    | some (.agg _) => (zrow P zt t).map .agg
    | some z => some (ofV z)
    | none => none)
  | none => none
theorem zvalK_sound (hz : ZOk P zt) {t : TypeId} {x : SV} (h : zvalK P zt t = some x) : x.one = true ∧ x.wf β.length ∧ ∀ w, (zeroValue t).run P w = .ok (x.val β) w := by
  unfold zvalK at h
  split at h
  · rename_i i hi
    split at h
    · rename_i cs hc
      cases hr : zrow P zt t with
      | none => rw [hr] at h; cases h
      | some r =>
        rw [hr] at h
        cases h
        obtain ⟨i', z, hi', hzz, h1, h2⟩ := zrow_sound (β := β) hz hr
        obtain rfl : i = i' := by rw [hi] at hi'; exact Option.some.inj hi'
        obtain rfl : z = .agg cs := by rw [hc] at hzz; exact (Option.some.inj hzz).symm
        refine ⟨rfl, h1, fun w => ?_⟩
        rw [run_zeroValue hi hc]
        simp [SV.val, SV.vals, h2, Value.cells]
    · rename_i z hc
      cases h
      exact ⟨ofV_one _, ofV_wf _ _, fun w => by rw [run_zeroValue hi hc, ofV_val]⟩
    · cases h
  · cases h

def tupOk (v : SV) (ok : Bool) (commaOk : Bool) : SV := bif commaOk then .tup (.cons v (.cons (.bool (.lit ok)) .nil)) else v

def xLookup (P : Program) (zt : List (TypeId × SV)) (t : TypeId) (m key : SV) (commaOk : Bool) (hp : Hp) (K : SV → Prop) : Prop :=
  match P.underlying t with
  | some (.map kt vt) => (match P.underlying kt with
    | some kd => bif keyD kd then (match zvalK P zt vt with
      | some z => (match m with
        | .nilmap => K (tupOk z false commaOk)
        | .map id => (match getB id hp with
          | some (.map es _) => findK kd key es 0 (fun _ v => bif v.one then K (tupOk v true commaOk) else False) (K (tupOk z false commaOk))
          | _ => False)
        | _ => False)
      | none => False) else False
    | none => False)
  | _ => False
theorem xLookup_sound (hz : ZOk P zt) (hS : Sat F β hp w) {t : TypeId} {m key : SV} {commaOk : Bool} {K : SV → Prop} (h : xLookup P zt t m key commaOk hp K) :
    ∃ sv, K sv ∧ sv.one = true ∧ sv.wf β.length ∧ ∀ w', Sat F β hp w' → (Instr.lookup t (m.val β) (key.val β) commaOk).run P w' = .ok (sv.val β) w' := by
  unfold xLookup at h
  split at h
  · rename_i kt vt hd
    split at h
    · rename_i kd hkd
      cases hk : keyD kd <;> rw [hk] at h
      · exact h.elim
      · simp only [cond_true] at h
        split at h
        · rename_i z hzv
          obtain ⟨z1, z2, z3⟩ := zvalK_sound (β := β) hz hzv
          have tup : ∀ (v : SV) (ok : Bool), v.one = true → v.wf β.length → (tupOk v ok commaOk).one = true ∧ (tupOk v ok commaOk).wf β.length ∧ (tupOk v ok commaOk).val β = (if commaOk then .tuple #[v.val β, .bool ok] else v.val β) := by
            intro v ok h1 h2
            cases commaOk
            · exact ⟨h1, h2, rfl⟩
            · refine ⟨rfl, ⟨h2, trivial, trivial⟩, ?_⟩
              show Value.tuple ((v.vals β ++ ([Value.bool ok] ++ [])).toArray) = _
              rw [SV.vals_one β h1]; rfl
          split at h
          · obtain ⟨t1, t2, t3⟩ := tup z false z1 z2
            refine ⟨_, h, t1, t2, fun w' hS' => ?_⟩
            rw [t3]
            show (Instr.lookup t (.map none) (key.val β) commaOk).run P w' = _
            simp [Instr.lookup, run_underlying hd, run_checkKey hkd hk, Instr.findKey, run_underlying hkd, Instr.findNow, z3]
          · rename_i id
            split at h
            · rename_i es c hg
              obtain ⟨g1, g2, _⟩ := hS.get hg
              rcases findK_sound (β := β) es 0 _ _ h with ⟨hf, hK⟩ | ⟨j, e, hj, hy, hf, _⟩
              · obtain ⟨t1, t2, t3⟩ := tup z false z1 z2
                refine ⟨_, hK, t1, t2, fun w' hS' => ?_⟩
                obtain ⟨_, _, g3⟩ := hS'.get hg
                simp only [SObj.den] at g3
                rw [t3]
                show (Instr.lookup t (.map (some (blk β id))) (key.val β) commaOk).run P w' = _
                simp [Instr.lookup, run_underlying hd, run_checkKey hkd hk, Instr.findKey, run_underlying hkd, getObj, Sem.run, g3, hf, z3]
              · cases h1 : e.2.1.one <;> rw [h1] at hy
                · exact hy.elim
                · have hw := g2 e (List.mem_of_getElem? hj)
                  obtain ⟨t1, t2, t3⟩ := tup e.2.1 true h1 hw.2
                  refine ⟨_, hy, t1, t2, fun w' hS' => ?_⟩
                  obtain ⟨_, _, g3⟩ := hS'.get hg
                  simp only [SObj.den] at g3
                  rw [t3]
                  show (Instr.lookup t (.map (some (blk β id))) (key.val β) commaOk).run P w' = _
                  simp [Instr.lookup, run_underlying hd, run_checkKey hkd hk, Instr.findKey, run_underlying hkd, getObj, Sem.run, g3, hf]
            · exact h.elim
          · exact h.elim
        · exact h.elim
    · exact h.elim
  · exact h.elim

def ownMap (id : Nat) (hp : Hp) : Option (List (SV × SV × Nat) × Nat) :=
  match getH id hp.H with
  | some (.map es c) => some (es, c)
  | _ => none
theorem ownMap_get {id : Nat} {es : List (SV × SV × Nat)} {c : Nat} (hg : ownMap id hp = some (es, c)) : getH id hp.H = some (.map es c) := by
  unfold ownMap at hg
  split at hg
  · rename_i es' c' hb
    cases hg
    exact hb
  · cases hg

def xMapUpdate (P : Program) (t : TypeId) (m key v : SV) (hp : Hp) (K : Hp → Prop) : Prop :=
  match P.underlying t, m with
  | some (.map kt _), .map id => (match P.underlying kt, ownMap id hp with
    | some kd, some (es, c) => bif keyD kd && key.one && v.one then
        findK kd key es 0 (fun i _ => K { hp with H := setH id (.map (es.modify i fun e => (key, v, e.2.2)) c) hp.H })
          (K { hp with H := setH id (.map (es ++ [(key, v, c)]) (c + 1)) hp.H }) else False
    | _, _ => False)
  | _, _ => False
theorem xMapUpdate_sound (hS : Sat F β hp w) {t : TypeId} {m key v : SV} {K : Hp → Prop} (hkw : key.wf β.length) (hvw : v.wf β.length) (h : xMapUpdate P t m key v hp K) :
    ∃ hp' w', (Instr.mapUpdate t (m.val β) (key.val β) (v.val β)).run P w = .ok () w' ∧ Sat F β hp' w' ∧ K hp' := by
  unfold xMapUpdate at h
  split at h
  · rename_i kt vt id hd
    split at h
    · rename_i kd es c hkd hg
      have hown := ownMap_get hg
      cases hb : (keyD kd && key.one && v.one) <;> rw [hb] at h
      · exact h.elim
      · simp only [Bool.and_eq_true] at hb
        obtain ⟨⟨hk, k1⟩, v1⟩ := hb
        obtain ⟨g1, g2, g3⟩ := hS.get (o := .map es c) (id := id) (by unfold getB; rw [hown])
        simp only [SObj.den] at g3
        have hlt : blk β id < w.heap.size := (Array.getElem?_eq_some_iff.1 g3).1
        have fin : ∀ o' : SObj, o'.wf β.length → (Instr.mapUpdate t (.map (some (blk β id))) (key.val β) (v.val β)).run P w = .ok () { w with heap := w.heap.setIfInBounds (blk β id) (o'.den β) } →
            K { hp with H := setH id o' hp.H } → ∃ hp' w', (Instr.mapUpdate t ((SV.map id).val β) (key.val β) (v.val β)).run P w = .ok () w' ∧ Sat F β hp' w' ∧ K hp' := by
          intro o' ho hr hK
          refine ⟨_, _, hr, hS.set hown ho ⟨rfl, rfl, rfl⟩ (by simp [hlt]) (fun b hne => by simp [Array.getElem?_setIfInBounds_ne (Ne.symm hne)]), hK⟩
        rcases findK_sound (β := β) es 0 _ _ h with ⟨hf, hK⟩ | ⟨j, e, hj, hy, hf, hkey, hbits⟩
        · refine fin (.map (es ++ [(key, v, c)]) (c + 1)) (fun e he => ?_) ?_ hK
          · rcases List.mem_append.1 he with he | he
            · exact g2 e he
            · obtain rfl := List.mem_singleton.1 he
              exact ⟨hkw, hvw⟩
          · simp [Instr.mapUpdate, run_underlying hd, run_checkKey hkd hk, Instr.findKey, run_underlying hkd, getObj, setObj, Sem.run, g3, hf, SObj.den, entD]
        · simp only [Nat.zero_add] at hy hf
          refine fin (.map (es.modify j fun e => (key, v, e.2.2)) c) (fun e' he => ?_) ?_ hy
          · obtain ⟨i, hi⟩ := List.mem_iff_getElem?.1 he
            rw [List.getElem?_modify] at hi
            cases hei : es[i]? with
            | none => rw [hei] at hi; cases hi
            | some x =>
              rw [hei] at hi
              have hx := g2 x (List.mem_of_getElem? hei)
              by_cases hij : j = i
              · simp [hij] at hi
                subst hi
                exact ⟨hkw, hvw⟩
              · simp [hij] at hi
                subst hi
                exact hx
          · have hej : (es.map (entD β)).toArray[j]? = some (entD β e) := by simp [hj]
            have hst : (Instr.keyThatStays (e.1.val β) (key.val β)).run P w = .ok (key.val β) w := by
              unfold Instr.keyThatStays
              rw [if_pos (hbits 10000)]; rfl
            have hmod : (es.map (entD β)).toArray.modify j (fun x => { x with key := key.val β, val := v.val β }) = ((es.modify j fun e => (key, v, e.2.2)).map (entD β)).toArray := by
              apply Array.ext'
              simp only [Array.toList_modify]
              apply List.ext_getElem?
              intro i
              simp only [List.getElem?_modify, List.getElem?_map]
              cases es[i]? with
              | none => rfl
              | some x => by_cases hij : j = i <;> simp [hij, entD]
            have hkk : ((((es.map (entD β)).toArray[j]?).map (·.key)).getD (key.val β)) = e.1.val β := by rw [hej]; rfl
            simp only [Instr.mapUpdate, Sem.run_bind, run_underlying hd, Result.andThen_ok, run_checkKey hkd hk, Instr.findKey, run_underlying hkd, getObj, Sem.run, g3, hf, List.toList_toArray, Sem.run_pure, hkk, hst, SObj.den]
            simp only [setObj, Sem.run, g3, hmod]
    · exact h.elim
  · exact h.elim
end
end Vx
