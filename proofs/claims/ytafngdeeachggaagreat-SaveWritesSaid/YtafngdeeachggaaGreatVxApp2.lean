/- Rows made, appended to and copied into; maps. -/
import Derived.Test.YtafngdeeachggaaGreatVxApp
import Derived.Laws.IdiomStrings
import Derived.Laws.AppendOwn
set_option linter.unusedVariables false
set_option linter.unusedSimpArgs false
namespace Vx
open Go

/-- Parts a row before its last piece, where that is a blob. -/
def cutBlob : SV → Option (SV × NE × List Value)
  | .cons (.blob n vs) .nil => some (.nil, n, vs)
  | .cons h t => match cutBlob t with
    | some (p, n, vs) => some (.cons h p, n, vs)
    | none => none
  | _ => none
/-- How many cells a row has. -/
def SV.widN : SV → NE
  | .nil => .lit 0
  | .cons h t => addN h.widN t.widN
  | .run _ n _ => n
  | .blob n _ => n
  | _ => .lit 1
/-- Two numbers, alike. -/
def eqN (a b : NE) (K : Prop) : Prop :=
  match a, b with
  | .lit x, .lit y => bif Nat.beq x y then K else False
  | a, b => a.den = b.den ∧ (a.den = b.den → K)
theorem eqN_sound {a b : NE} {K : Prop} (h : eqN a b K) : a.den = b.den ∧ K := by
  unfold eqN at h
  split at h
  · rename_i x y
    cases hb : Nat.beq x y <;> rw [hb] at h
    · exact h.elim
    · exact ⟨beq_t hb, h⟩
  · exact ⟨h.1, h.2 h.1⟩

theorem oneCell_mem_repL {zs : List Value} (h : ∀ v ∈ zs, v.oneCell' = true) : ∀ n, ∀ v ∈ repL zs n, v.oneCell' = true
  | 0, v, hv => by cases hv
  | n + 1, v, hv => by
    rcases List.mem_append.1 hv with hv | hv
    · exact h v hv
    · exact oneCell_mem_repL h n v hv
theorem repL_length (zs : List Value) : ∀ n, (repL zs n).length = n * zs.length
  | 0 => by simp [repL]
  | n + 1 => by simp [repL, repL_length zs n, Nat.succ_mul, Nat.add_comm]
theorem repL_add (zs : List Value) (a b : Nat) : repL zs (a + b) = repL zs a ++ repL zs b := by
  induction a with
  | zero => simp [repL]
  | succ a ih => rw [Nat.succ_add]; simp [repL, ih]

theorem NE_v (n : Nat) : (NE.v n).den = n := rfl
section
variable {P : Program} {F : Fr} {β : List Nat} {hp : Hp} {w : World} {zt : List (TypeId × SV)} {K : SV → Hp → Prop}

theorem SV.widN_len (x : SV) (hw : x.wf β.length) : (x.vals β).length = x.widN.den := by
  induction x with
  | cons h t ihh iht => simp [SV.vals, SV.widN, addN_den, ihh hw.1, iht hw.2]
  | run k n xs => simp only [SV.vals, List.length_map, SV.widN]; exact hw
  | blob n vs => exact hw.1
  | nil => rfl
  | _ => rfl

theorem cutBlob_sound : ∀ (l p : SV) (n : NE) (vs : List Value), l.wf β.length → cutBlob l = some (p, n, vs) →
    l.vals β = p.vals β ++ vs ∧ p.wf β.length ∧ vs.length = n.den ∧ ∀ v ∈ vs, v.oneCell' = true := by
  intro l
  induction l with
  | cons h t _ iht =>
    intro p n vs hw hc
    unfold cutBlob at hc
    split at hc
    · rename_i m us heq
      cases heq
      cases hc
      exact ⟨by simp [SV.vals], trivial, hw.1.1, hw.1.2⟩
    · rename_i h' t' _ heq
      cases heq
      split at hc
      · rename_i p' n' vs' ht
        cases hc
        obtain ⟨h1, h2, h3⟩ := iht _ _ _ hw.2 ht
        exact ⟨by simp [SV.vals, h1], ⟨hw.1, h2⟩, h3⟩
      · cases hc
    · cases hc
  | _ => intro p n vs hw hc; cases hc

/-! ### make -/

def mapK (m : TypeDesc) : Bool := match m with | .map _ _ => true | _ => false
def xMakeMap (P : Program) (t : TypeId) (r : Option SV) (hp : Hp) (K : SV → Hp → Prop) : Prop :=
  match r with
  | none => K (.map hp.n) { hp with n := hp.n + 1, H := (hp.n, some (.map [] 0)) :: hp.H }
  | some (.int _ _) => (match P.underlying t with
    | some (.map _ _) => K (.map hp.n) { hp with n := hp.n + 1, H := (hp.n, some (.map [] 0)) :: hp.H }
    | _ => False)
  | _ => False
theorem xMakeMap_sound (hS : Sat F β hp w) {t : TypeId} {r : Option SV} (h : xMakeMap P t r hp K) : Runs P F β w (Instr.makeMap t (r.map (SV.val β))) K := by
  have hn := hS.n
  have hnew := hS.new (.map [] 0) (fun e he => by cases he)
  have fin : K (.map hp.n) { hp with n := hp.n + 1, H := (hp.n, some (.map [] 0)) :: hp.H } → Yld F β K (.map (some w.heap.size)) { w with heap := w.heap.push (.map #[] 0) } := fun hK =>
    ⟨[w.heap.size], _, _, hnew, rfl, by simp [SV.wf, hn], by simp [SV.val, SV.vals, blk, hn], hK⟩
  unfold xMakeMap at h
  split at h
  · exact ⟨_, _, rfl, fin h⟩
  · rename_i k e
    split at h
    · rename_i a b hd
      refine ⟨_, _, ?_, fin h⟩
      simp [Instr.makeMap, run_underlying hd, Go.asInt, asIntOf, val_int]
    · exact h.elim
  · exact h.elim

/-- Rows of zero elements whose number isn't a literal. -/
def zerosN (z : SV) (n : NE) (K : SV → Prop) : Prop :=
  match n with
  | .lit n => K (zeros z n)
  | .v n => match z with
    | .cons (.int k (.lit d)) .nil => ∀ xs : List Int, xs = List.replicate n d → K (.cons (.run k (.v n) (.list xs)) .nil)
    | _ => False
theorem zerosN_sound {z : SV} {n : NE} {K : SV → Prop} (hz : z.wf β.length) (h : zerosN z n K) : ∃ l, K l ∧ l.wf β.length ∧ l.vals β = repL (z.vals β) n.den := by
  unfold zerosN at h
  split at h
  · rename_i m
    obtain ⟨h1, h2⟩ := zeros_sound (β := β) z m hz
    exact ⟨_, h, h1, h2⟩
  · rename_i m
    split at h
    · rename_i k d
      refine ⟨_, h _ rfl, ⟨show (List.replicate m d).length = m by simp, trivial⟩, ?_⟩
      show (List.replicate m d).map (Value.int k) ++ [] = repL [.int k d] m
      rw [repL_one]; simp
    · exact h.elim

def xMakeSlice (P : Program) (zt : List (TypeId × SV)) (t : TypeId) (len cap : SV) (hp : Hp) (K : SV → Hp → Prop) : Prop :=
  match P.underlying t, len, cap with
  | some (.slice el), .int _ l, .int _ c => (match P.info? el, zrow P zt el with
    | some inf, some z => leE l (IE.n c) <| leE c (.lit 9223372036854775807) <| leN (mulN (IE.n c) inf.bytes) (.lit 281474976710656) <|
        bif z.cells && (match z.wid with | some m => Nat.beq m inf.size | none => false) then
          zerosN z (IE.n l) fun row => ∀ vs : List Value, vs.length = (subN (IE.n c) (IE.n l)).den * inf.size → (∀ v ∈ vs, v.oneCell' = true) →
            newRowK (row.app (.cons (.blob (mulN (subN (IE.n c) (IE.n l)) inf.size) vs) .nil)) el hp K (fun n => .slice n (.lit 0) (IE.n l) (IE.n c))
        else False
    | _, _ => False)
  | _, _, _ => False

theorem zsize {z : SV} {zv : Value} {s : Nat} (h1 : z.wf β.length) (h2 : z.vals β = zv.cells.toList) (h : (match z.wid with | some m => Nat.beq m s | none => false) = true) : zv.cells.size = s := by
  split at h
  · rename_i m hm
    have h4 := SV.wid_len β z h1 m hm
    rw [h2] at h4
    have := beq_t h
    simp at h4
    omega
  · cases h

theorem xMakeSlice_sound (hz : ZOk P zt) (hS : Sat F β hp w) {t : TypeId} {len cap : SV} (h : xMakeSlice P zt t len cap hp K) : Runs P F β w (Instr.makeSlice t (len.val β) (cap.val β)) K := by
  unfold xMakeSlice at h
  split at h
  · rename_i el k1 l k2 c hd
    split at h
    · rename_i inf z hinf hr
      obtain ⟨a1, a2, h⟩ := leE_sound h
      obtain ⟨b1, b2, h⟩ := leE_sound h
      obtain ⟨c1, h⟩ := leN_sound h
      cases hc : (z.cells && (match z.wid with | some m => Nat.beq m inf.size | none => false)) <;> rw [hc] at h
      · exact h.elim
      · simp only [cond_true] at h
        simp only [Bool.and_eq_true] at hc
        obtain ⟨i, zv, hi, hzz, h1, h2⟩ := zrow_sound (β := β) hz hr
        obtain rfl : inf = i := by rw [hinf] at hi; exact Option.some.inj hi
        have hzsz := zsize h1 h2 hc.2
        obtain ⟨row, hrow, r1, r2⟩ := zerosN_sound (β := β) h1 h
        have hone := SV.cells_sound h1 hc.1
        have hsub : (subN (IE.n c) (IE.n l)).den = c.den.toNat - l.den.toNat := by rw [subN_den, IE.n_den, IE.n_den]
        have hlen : (repL (z.vals β) (c.den.toNat - l.den.toNat)).length = (subN (IE.n c) (IE.n l)).den * inf.size := by
          rw [repL_length, hsub, h2]; simp [hzsz]
        have hK := hrow (repL (z.vals β) (c.den.toNat - l.den.toNat)) hlen (oneCell_mem_repL hone _)
        rw [IE.n_den] at a2
        have hwf : (row.app (.cons (.blob (mulN (subN (IE.n c) (IE.n l)) inf.size) (repL (z.vals β) (c.den.toNat - l.den.toNat))) .nil)).wf β.length :=
          SV.app_wf _ _ _ r1 ⟨⟨by rw [mulN_den]; exact hlen, oneCell_mem_repL hone _⟩, trivial⟩
        refine ⟨_, _, ?_, yld_new hS hwf el (fun n => .slice n (.lit 0) (IE.n l) (IE.n c)) rfl (Nat.lt_succ_self _) hK (v := .slice (some ⟨w.heap.size, 0, none⟩) l.den.toNat c.den.toNat) (fun γ hγ => ?_)⟩
        · rw [mulN_den, IE.n_den, NE_lit] at c1
          have hby : (inf.bytes : Int) * c.den ≤ 281474976710656 := by
            have h5 : c.den = (c.den.toNat : Int) := by omega
            rw [h5]
            have h6 : ((c.den.toNat * inf.bytes : Nat) : Int) ≤ 281474976710656 := by omega
            rw [Int.natCast_mul, Int.mul_comm] at h6
            exact h6
          have := run_make (P := P) w t el inf zv hd hinf hzz k1 k2 l.den c.den a1 (by omega) hby (by rw [NE_lit] at b2; exact b2)
          rw [val_int, val_int, this]
          have hrows : madeCells zv.cells (c.den.toNat * inf.size) = ((row.app (.cons (.blob (mulN (subN (IE.n c) (IE.n l)) inf.size) (repL (z.vals β) (c.den.toNat - l.den.toNat))) .nil)).vals β).toArray := by
            have h7 := madeCells_repL zv.cells c.den.toNat
            rw [hzsz] at h7
            rw [h7, SV.app_vals, r2, IE.n_den, ← h2]
            have h8 : c.den.toNat = l.den.toNat + (c.den.toNat - l.den.toNat) := by omega
            conv => lhs; rw [h8, repL_add]
            simp [SV.vals]
          rw [hrows]
          rfl
        · simp [SV.val, SV.vals, hγ, Off.den, IE.n_den]
    · exact h.elim
  · exact h.elim

/-- A text as a slice of bytes. -/
def xBytes (P : Program) (src dst : TypeId) (x : SV) (hp : Hp) (K : SV → Hp → Prop) : Prop :=
  match P.underlying src, P.underlying dst, x with
  | some .string, some (.slice e), .str s => (match P.underlying e with
    | some (.int .u8) => ∀ (c : Nat) (vs : List Value), s.den.size ≤ c → vs.length = c - s.den.size → (∀ v ∈ vs, v.oneCell' = true) →
        K (.slice hp.n (.lit 0) s.size (.v c)) { hp with n := hp.n + 1, H := (hp.n, some (.cells ((match s with
          | .lit b => litRow b.data.toList
          | .v b => .cons (.run .u8 (.v b.size) (.list (bytesOf b))) .nil).app (.cons (.blob (.v (c - s.den.size)) vs) .nil)) e true)) :: hp.H }
    | _ => False)
  | _, _, _ => False
theorem xBytes_sound (hS : Sat F β hp w) {src dst : TypeId} {x : SV} (h : xBytes P src dst x hp K) : Runs P F β w (convert src dst (x.val β)) K := by
  unfold xBytes at h
  split at h
  · rename_i e s hs hd
    split at h
    · rename_i he
      have hr := run_bytes_of_string w src dst e s.den hs hd he
      have hge := grownCap_ge w s.den.size 0 e
      have hK := h (grownCap w s.den.size 0 e) (List.replicate (grownCap w s.den.size 0 e - s.den.size) (.int .u8 0)) hge (by simp) (fun v hv => by rw [(List.mem_replicate.1 hv).2]; rfl)
      have hn := hS.n
      have hrow : ∀ l : SV, l.vals β = byteCells s.den → l.wf β.length →
          K (.slice hp.n (.lit 0) s.size (.v (grownCap w s.den.size 0 e))) { hp with n := hp.n + 1, H := (hp.n, some (.cells (l.app (.cons (.blob (.v (grownCap w s.den.size 0 e - s.den.size)) (List.replicate (grownCap w s.den.size 0 e - s.den.size) (.int .u8 0))) .nil)) e true)) :: hp.H } →
          Runs P F β w (convert src dst ((SV.str s).val β)) K := by
        intro l hl hlw hK
        have hwf : (l.app (.cons (.blob (.v (grownCap w s.den.size 0 e - s.den.size)) (List.replicate (grownCap w s.den.size 0 e - s.den.size) (.int .u8 0))) .nil)).wf β.length :=
          SV.app_wf _ _ _ hlw ⟨⟨by simp [NE.den], fun v hv => by rw [(List.mem_replicate.1 hv).2]; rfl⟩, trivial⟩
        have hnew := (hS.drew (w.drawn + 1)).new (.cells _ e true) (by rw [hn]; exact SV.wf_mono (Nat.le_succ _) _ hwf)
        refine ⟨_, _, hr, [w.heap.size], _, _, ?_, rfl, by simp [SV.wf, hn], by simp [SV.val, SV.vals, blk, hn, Off.den, SE.size_den, NE_v], hK⟩
        have hv := SV.vals_append β [w.heap.size] _ hwf
        have hvals : (l.app (.cons (.blob (.v (grownCap w s.den.size 0 e - s.den.size)) (List.replicate (grownCap w s.den.size 0 e - s.den.size) (.int .u8 0))) .nil)).vals β = (bytesRow s.den (grownCap w s.den.size 0 e)).toList := by
          rw [SV.app_vals, hl]
          simp [SV.vals, bytesRow, byteCells]
        simp only [SObj.den, fzOf, cond_true] at hnew
        rw [hv, hvals] at hnew
        simp at hnew
        exact hnew
      cases s with
      | lit b => exact hrow _ (litRow_vals _) (litRow_wf _ _) hK
      | v b => exact hrow (.cons (.run .u8 (.v b.size) (.list (bytesOf b))) .nil) (by show (bytesOf b).map (Value.int .u8) ++ [] = _; simp [bytesOf, byteCells, SE.den]) ⟨bytesOf_length b, trivial⟩ hK
    · exact h.elim
  · exact h.elim
end
end Vx
