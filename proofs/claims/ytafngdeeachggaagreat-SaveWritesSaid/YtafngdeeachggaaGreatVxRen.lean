/- Other names for blocks; what a part of the code does not touch. -/
import Derived.Test.YtafngdeeachggaaGreatVxCode
set_option linter.unusedVariables false
set_option linter.unusedSimpArgs false
namespace Vx
open Go

/-! ### Other names -/

def SV.ren (ρ : Nat → Nat) : SV → SV
  | .ptr id o => .ptr (ρ id) o
  | .slice id o l c => .slice (ρ id) o l c
  | .map id => .map (ρ id)
  | .fn f caps => .fn f (caps.ren ρ)
  | .iface t v => .iface t (v.ren ρ)
  | .agg l => .agg (l.ren ρ)
  | .tup l => .tup (l.ren ρ)
  | .cons h t => .cons (h.ren ρ) (t.ren ρ)
  | x => x
/-- The new names mean what the old ones meant. -/
def Means (ρ : Nat → Nat) (β δ : List Nat) : Prop := ∀ id, id < β.length → ρ id < δ.length ∧ blk δ (ρ id) = blk β id
section
variable {ρ : Nat → Nat} {β δ : List Nat}
theorem SV.ren_vals (hm : Means ρ β δ) : ∀ x : SV, x.wf β.length → (x.ren ρ).vals δ = x.vals β ∧ (x.ren ρ).wf δ.length
  | .ptr id o, h => ⟨by simp [SV.ren, SV.vals, (hm id h).2], (hm id h).1⟩
  | .slice id o l c, h => ⟨by simp [SV.ren, SV.vals, (hm id h).2], (hm id h).1⟩
  | .map id, h => ⟨by simp [SV.ren, SV.vals, (hm id h).2], (hm id h).1⟩
  | .fn f caps, h => ⟨by simp [SV.ren, SV.vals, (SV.ren_vals hm caps h).1], (SV.ren_vals hm caps h).2⟩
  | .iface t v, h => ⟨by simp [SV.ren, SV.vals, (SV.ren_vals hm v h).1], (SV.ren_vals hm v h).2⟩
  | .agg l, h => ⟨by simp [SV.ren, SV.vals, (SV.ren_vals hm l h).1], (SV.ren_vals hm l h).2⟩
  | .tup l, h => ⟨by simp [SV.ren, SV.vals, (SV.ren_vals hm l h).1], (SV.ren_vals hm l h).2⟩
  | .cons a b, h => ⟨by simp [SV.ren, SV.vals, (SV.ren_vals hm a h.1).1, (SV.ren_vals hm b h.2).1], (SV.ren_vals hm a h.1).2, (SV.ren_vals hm b h.2).2⟩
  | .run .., h => ⟨rfl, h⟩
  | .blob .., h => ⟨rfl, h⟩
  | .int .., _ => ⟨rfl, trivial⟩
  | .bool .., _ => ⟨rfl, trivial⟩
  | .str .., _ => ⟨rfl, trivial⟩
  | .nilptr, _ => ⟨rfl, trivial⟩
  | .nilslice, _ => ⟨rfl, trivial⟩
  | .nilmap, _ => ⟨rfl, trivial⟩
  | .opq .., _ => ⟨rfl, trivial⟩
  | .nil, _ => ⟨rfl, trivial⟩
  | .gsl .., _ => ⟨rfl, trivial⟩
  | .gptr .., _ => ⟨rfl, trivial⟩
theorem SV.ren_val (hm : Means ρ β δ) (x : SV) (h : x.wf β.length) : (x.ren ρ).val δ = x.val β := by
  simp [SV.val, (SV.ren_vals hm x h).1]
theorem SV.ren_one (ρ : Nat → Nat) (x : SV) : (x.ren ρ).one = x.one := by cases x <;> rfl

def entR (ρ : Nat → Nat) (e : SV × SV × Nat) : SV × SV × Nat := (e.1.ren ρ, e.2.1.ren ρ, e.2.2)
def SObj.ren (ρ : Nat → Nat) : SObj → SObj
  | .cells l e z => .cells (l.ren ρ) e z
  | .map es c => .map (es.map (entR ρ)) c
  | .other o => .other o
theorem SObj.ren_den (hm : Means ρ β δ) (o : SObj) (h : o.wf β.length) : (o.ren ρ).den δ = o.den β ∧ (o.ren ρ).wf δ.length := by
  cases o with
  | cells l e z => exact ⟨by simp [SObj.ren, SObj.den, (SV.ren_vals hm l h).1], (SV.ren_vals hm l h).2⟩
  | map es c =>
    refine ⟨?_, fun e he => ?_⟩
    · simp only [SObj.ren, SObj.den, List.map_map]
      rw [List.map_congr_left (f := entD δ ∘ entR ρ) (g := entD β)]
      intro e he
      obtain ⟨h1, h2⟩ := h e he
      simp [entD, entR, SV.ren_val hm _ h1, SV.ren_val hm _ h2]
    · obtain ⟨e', he', rfl⟩ := List.mem_map.1 he
      obtain ⟨h1, h2⟩ := h e' he'
      exact ⟨(SV.ren_vals hm _ h1).2, (SV.ren_vals hm _ h2).2⟩
  | other o => exact ⟨rfl, trivial⟩

def renL (ρ : Nat → Nat) : List (Nat × SV) → List (Nat × SV)
  | [] => []
  | (t, x) :: r => (t, x.ren ρ) :: renL ρ r
def renT (ρ : Nat → Nat) (T : Tm) : Tm := ⟨T.n, renL ρ T.l, T.d⟩
theorem look_renL (ρ : Nat → Nat) (d : Nat → Value) (t : Nat) : ∀ l, look d t (renL ρ l) = (look d t l).ren ρ
  | [] => rfl
  | (j, x) :: r => by
    simp only [renL, look]
    cases Nat.beq j t
    · exact look_renL ρ d t r
    · rfl
theorem TOk.ren (hm : Means ρ β δ) {T : Tm} {a : Act} (h : TOk β T a) : TOk δ (renT ρ T) a :=
  ⟨h.size, fun t ht => by
    show a.tmps[t]? = some ((look T.d t (renL ρ T.l)).val δ)
    rw [look_renL, SV.ren_val hm _ (h.ok t).2]; exact h.tmps t ht,
   fun t => by
    show (look T.d t (renL ρ T.l)).one = true ∧ (look T.d t (renL ρ T.l)).wf δ.length
    rw [look_renL, SV.ren_one]; exact ⟨(h.ok t).1, (SV.ren_vals hm _ (h.ok t).2).2⟩, h.defers⟩

def renH (ρ : Nat → Nat) : List (Nat × Option SObj) → List (Nat × Option SObj)
  | [] => []
  | (i, some o) :: r => (ρ i, some (o.ren ρ)) :: renH ρ r
  | (i, none) :: r => (ρ i, none) :: renH ρ r
/-- Blocks that are gone. -/
def goneH : List Nat → List (Nat × Option SObj) → List (Nat × Option SObj)
  | [], H => H
  | i :: r, H => (i, none) :: goneH r H

theorem getH_renH {k : Nat} {o : SObj} : ∀ {H : List (Nat × Option SObj)}, getH k (renH ρ H) = some o → ∃ i o', ρ i = k ∧ getH i H = some o' ∧ o = o'.ren ρ
  | [], h => (by cases h)
  | (j, some x) :: r, h => by
    simp only [renH, getH] at h
    cases hb : Nat.beq (ρ j) k <;> rw [hb] at h
    · obtain ⟨i, o', h1, h2, h3⟩ := getH_renH h
      refine ⟨i, o', h1, ?_, h3⟩
      have hji : j ≠ i := fun e => by subst e; exact beq_f hb h1
      rw [getH_ne hji]; exact h2
    · cases h
      exact ⟨j, x, beq_t hb, getH_self _ _ _, rfl⟩
  | (j, none) :: r, h => by
    simp only [renH, getH] at h
    cases hb : Nat.beq (ρ j) k <;> rw [hb] at h
    · obtain ⟨i, o', h1, h2, h3⟩ := getH_renH h
      refine ⟨i, o', h1, ?_, h3⟩
      have hji : j ≠ i := fun e => by subst e; exact beq_f hb h1
      rw [getH_ne hji]; exact h2
    · cases h
theorem getH_goneH {k : Nat} {o : SObj} : ∀ {l : List Nat} {H : List (Nat × Option SObj)}, getH k (goneH l H) = some o → k ∉ l ∧ getH k H = some o
  | [], H, h => ⟨by simp, h⟩
  | i :: r, H, h => by
    simp only [goneH, getH] at h
    cases hb : Nat.beq i k <;> rw [hb] at h
    · obtain ⟨h1, h2⟩ := getH_goneH h
      refine ⟨fun hm => ?_, h2⟩
      rcases List.mem_cons.1 hm with rfl | hm
      · exact beq_f hb rfl
      · exact h1 hm
    · cases h
theorem getH_app {k : Nat} {o : SObj} : ∀ {A B : List (Nat × Option SObj)}, getH k (A ++ B) = some o → getH k A = some o ∨ getH k B = some o
  | [], B, h => .inr h
  | (j, x) :: r, B, h => by
    simp only [List.cons_append, getH] at h ⊢
    cases hb : Nat.beq j k <;> rw [hb] at h
    · exact getH_app h
    · exact .inl h

/-- The frame of a part of the code: all that is owned but for some blocks stays as it is. -/
noncomputable def Fr.off (F : Fr) (β : List Nat) (hp : Hp) (fp : List Nat) (w : World) : Fr :=
  open Classical in
  ⟨fun b => if ∃ j o, j ∉ fp ∧ getH j hp.H = some o ∧ blk β j = b then w.heap[b]? else F.h b, F.w0⟩

section
variable {F : Fr} {hp : Hp} {w : World} {fp : List Nat}
theorem off_other (hS : Sat F β hp w) {j : Nat} {o : SObj} (hj : j ∉ fp) (ho : getH j hp.H = some o) : (F.off β hp fp w).h (blk β j) = some (o.den β) := by
  simp only [Fr.off]
  rw [if_pos ⟨j, o, hj, ho, rfl⟩]
  exact (hS.own j o ho).2.2.2
theorem off_cases (hS : Sat F β hp w) {b : Nat} : (∃ j o, j ∉ fp ∧ getH j hp.H = some o ∧ blk β j = b ∧ (∀ x, ¬ fixd F hp.G b x)) ∨ (F.off β hp fp w).h b = F.h b := by
  by_cases h : ∃ j o, j ∉ fp ∧ getH j hp.H = some o ∧ blk β j = b
  · obtain ⟨j, o, h1, h2, h3⟩ := h
    exact .inl ⟨j, o, h1, h2, h3, h3 ▸ (hS.own j o h2).2.2.1⟩
  · exact .inr (by simp only [Fr.off]; rw [if_neg h])

/-- What is known of fewer blocks, under other names. -/
theorem Sat.part (hS : Sat F β hp w) {βp : List Nat} {Hp0 : List (Nat × Option SObj)} {Gp : Nat → Option Obj} (hG : ∀ b o, Gp b = some o → hp.G b = some o) (src : Nat → Nat)
    (hown : ∀ i o, getH i Hp0 = some o → i < βp.length ∧ o.wf βp.length ∧ src i ∈ fp ∧ ∃ o', getH (src i) hp.H = some o' ∧ blk βp i = blk β (src i) ∧ o.den βp = o'.den β)
    (hinj : ∀ i o i' o', getH i Hp0 = some o → getH i' Hp0 = some o' → i ≠ i' → src i ≠ src i') :
    Sat (F.off β hp fp w) βp ⟨βp.length, Hp0, [], Gp⟩ w := by
  have hfix : ∀ i o, getH i Hp0 = some o → ∀ x, ¬ fixd (F.off β hp fp w) Gp (blk βp i) x := by
    intro i o ho x hx
    obtain ⟨_, _, hfp, o', h1, h2, _⟩ := hown i o ho
    have hno := (hS.own _ _ h1).2.2.1
    rcases hx with hx | hx
    · rcases off_cases (fp := fp) hS (b := blk βp i) with ⟨j, oj, hj, hoj, hb, _⟩ | he
      · have : j ≠ src i := fun e => hj (e ▸ hfp)
        exact hS.apart j oj _ o' hoj h1 this (hb.trans h2)
      · rw [he] at hx
        exact hno x (h2 ▸ .inl hx)
    · exact hno x (h2 ▸ .inr (hG _ _ hx))
  refine ⟨rfl, hS.outer, ?_, ?_, ?_, fun e he => (by cases he), ?_⟩
  · intro b o hb
    rcases hb with hb | hb
    · rcases off_cases (fp := fp) hS (b := b) with ⟨j, oj, hj, hoj, hb', _⟩ | he
      · subst hb'
        rw [off_other hS hj hoj] at hb
        cases hb
        exact (hS.own j oj hoj).2.2.2
      · rw [he] at hb; exact hS.ext b o (.inl hb)
    · exact hS.ext b o (.inr (hG b o hb))
  · intro i o ho
    obtain ⟨h1, h2, _, o', h4, h5, h6⟩ := hown i o ho
    exact ⟨h1, h2, hfix i o ho, by rw [h5, h6]; exact (hS.own _ _ h4).2.2.2⟩
  · intro i o i' o' ho ho' hne
    obtain ⟨_, _, _, x, h1, h2, _⟩ := hown i o ho
    obtain ⟨_, _, _, x', h1', h2', _⟩ := hown i' o' ho'
    rw [h2, h2']
    exact hS.apart _ _ _ _ h1 h1' (hinj i o i' o' ho ho' hne)
  · intro b o hb
    rcases off_cases (fp := fp) hS (b := b) with ⟨j, oj, hj, hoj, hb', hno⟩ | he
    · exact absurd (.inr (hG b o hb)) (hno o)
    · rw [he]; exact hS.disj b o (hG b o hb)

/-- And back: the other blocks are as they were. -/
theorem Sat.back (hS : Sat F β hp w) {βp : List Nat} {hp' : Hp} {w' : World} (hS' : Sat (F.off β hp fp w) βp hp' w') {γ : List Nat} (hm : Means ρ βp (β ++ γ)) {n : Nat} (hn : n = (β ++ γ).length) :
    Sat F (β ++ γ) ⟨n, renH ρ hp'.H ++ goneH fp hp.H, [], hp'.G⟩ w' := by
  -- a block is renamed, or another one
  have cases_ : ∀ k o, getH k (renH ρ hp'.H ++ goneH fp hp.H) = some o →
      (∃ i o', ρ i = k ∧ getH i hp'.H = some o' ∧ o = o'.ren ρ) ∨ (k ∉ fp ∧ getH k hp.H = some o) := fun k o h => by
    rcases getH_app h with h | h
    · exact .inl (getH_renH h)
    · exact .inr (getH_goneH h)
  have hother : ∀ k o, k ∉ fp → getH k hp.H = some o → fixd (F.off β hp fp w) hp'.G (blk β k) (o.den β) := fun k o hk ho => .inl (off_other hS hk ho)
  have hF : ∀ b o, F.h b = some o → (F.off β hp fp w).h b = some o := fun b o hb => by
    rcases off_cases (fp := fp) hS (b := b) with ⟨j, oj, hj, hoj, hb', hno⟩ | he
    · exact absurd (.inl hb) (hno o)
    · rw [he]; exact hb
  have hlen : ∀ k : Nat, k < β.length → k < (β ++ γ).length := fun k hk => by simp; omega
  refine ⟨hn, hS'.outer, ?_, ?_, ?_, fun e he => (by cases he), ?_⟩
  · intro b o hb
    exact hS'.ext b o (hb.imp (hF b o) id)
  · intro k o ho
    rcases cases_ k o ho with ⟨i, o', rfl, h1, rfl⟩ | ⟨hk, h1⟩
    · obtain ⟨g1, g2, g3, g4⟩ := hS'.own i o' h1
      obtain ⟨m1, m2⟩ := hm i g1
      obtain ⟨d1, d2⟩ := SObj.ren_den hm o' g2
      refine ⟨m1, d2, fun x hx => g3 x ?_, by rw [m2, d1]; exact g4⟩
      rw [m2] at hx
      exact hx.imp (hF _ x) id
    · obtain ⟨g1, g2, g3, g4⟩ := hS.own k o h1
      rw [okOwn, blk_append g1, SObj.den_append _ _ _ g2]
      refine ⟨hlen k g1, SObj.wf_mono (by simp) _ g2, fun x hx => ?_, hS'.ext _ _ (hother k o hk h1)⟩
      rcases hx with hx | hx
      · exact g3 x (.inl hx)
      · have := hS'.disj _ _ hx
        rw [off_other hS hk h1] at this
        cases this
  · intro k o k' o' ho ho' hne
    rcases cases_ k o ho with ⟨i, x, rfl, h1, rfl⟩ | ⟨hk, h1⟩
    · obtain ⟨g1, _, g3, _⟩ := hS'.own i x h1
      rcases cases_ k' o' ho' with ⟨i', x', rfl, h1', rfl⟩ | ⟨hk', h1'⟩
      · obtain ⟨g1', _⟩ := hS'.own i' x' h1'
        rw [(hm i g1).2, (hm i' g1').2]
        exact hS'.apart i x i' x' h1 h1' (fun e => hne (by rw [e]))
      · rw [(hm i g1).2, blk_append (hS.own k' o' h1').1]
        intro e
        exact g3 _ (e ▸ hother k' o' hk' h1')
    · rcases cases_ k' o' ho' with ⟨i', x', rfl, h1', rfl⟩ | ⟨hk', h1'⟩
      · obtain ⟨g1', _, g3', _⟩ := hS'.own i' x' h1'
        rw [(hm i' g1').2, blk_append (hS.own k o h1).1]
        intro e
        exact g3' _ (e ▸ hother k o hk h1)
      · rw [blk_append (hS.own k o h1).1, blk_append (hS.own k' o' h1').1]
        exact hS.apart k o k' o' h1 h1' hne
  · intro b o hb
    have h1 := hS'.disj b o hb
    rcases off_cases (fp := fp) hS (b := b) with ⟨j, oj, hj, hoj, hb', hno⟩ | he
    · cases hF : F.h b with
      | none => rfl
      | some x => exact absurd (.inl hF) (hno x)
    · rw [← he]; exact h1
end
end
end Vx
