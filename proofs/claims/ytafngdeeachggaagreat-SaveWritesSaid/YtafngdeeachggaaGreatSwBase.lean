/- The settings; lists of bytes that one owns. -/
import Derived.Test.YtafngdeeachggaaGreatVxSpec
import Derived.KernelRfl
import Derived.Test.YtafngdeeachggaaGreatProg
set_option linter.unusedVariables false
set_option linter.unusedSimpArgs false
namespace Sw
set_option maxRecDepth 100000
open Go Go.Proofs Vx

def zt : List (TypeId × SV) := [(152, .cons (.run .u8 (.lit 512) (.fill 512 0 [])) .nil), (194, .cons (.run .u8 (.lit 4096) (.fill 4096 0 [])) .nil)]
noncomputable def C0 : Cfg := { P := Tryz.prog, zt := zt, qs := [], qcall := fun _ _ _ _ => False }

def zokP (P : Program) (e : TypeId × SV) : Prop := match P.info? e.1 with
  | some i => (match i.zero with
    | some z => e.2.vals [] = z.cells.toList
    | none => False)
  | none => False
theorem zokP_sound {P : Program} {e : TypeId × SV} (h : zokP P e) : ∃ i z, P.info? e.1 = some i ∧ i.zero = some z ∧ e.2.vals [] = z.cells.toList := by
  unfold zokP at h
  split at h
  · rename_i i hi
    split at h
    · rename_i z hz
      exact ⟨i, z, hi, hz, h⟩
    · exact h.elim
  · exact h.elim
theorem of_eq {a b : Prop} (h : a = b) (hb : b) : a := h ▸ hb
def zrowOf (n : Nat) : SV := .cons (.run .u8 (.lit n) (.fill n 0 [])) .nil
theorem zrowOf_wf (n : Nat) : (zrowOf n).wf 0 := ⟨List.length_replicate, trivial⟩
theorem zok1 : zokP Tryz.prog (152, zrowOf 512) = ((zrowOf 512).vals [] = (zrowOf 512).vals []) := by kernel_rfl
theorem zok2 : zokP Tryz.prog (194, zrowOf 4096) = ((zrowOf 4096).vals [] = (zrowOf 4096).vals []) := by kernel_rfl
theorem zok1' : zokP Tryz.prog (152, zrowOf 512) := of_eq zok1 (Eq.refl _)
theorem zok2' : zokP Tryz.prog (194, zrowOf 4096) := of_eq zok2 (Eq.refl _)
theorem c0_ok : CfgOk C0 := by
  refine ⟨fun e he => ?_, fun f args hp K h => h.elim, by kernel_rfl⟩
  have he : e ∈ [((152 : TypeId), zrowOf 512), (194, zrowOf 4096)] := he
  simp only [List.mem_cons, List.not_mem_nil, or_false] at he
  rcases he with rfl | rfl
  · exact ⟨zrowOf_wf 512, zokP_sound zok1'⟩
  · exact ⟨zrowOf_wf 4096, zokP_sound zok2'⟩

/-- A function's text, its calls, loops and regions followed as said. -/
noncomputable def bodyW (call : Nat → SpecT) (W : Ways) (f : Nat) : SpecT := match bodyOf C0.P f with
  | some (fn, c) => xFun C0 call W fn c
  | none => noSpec
noncomputable def body (call : Nat → SpecT) (L : Nat → LoopT) (f : Nat) : SpecT := bodyW call { loop := L } f
theorem bodyW_ok {call : Nat → SpecT} (hcall : ∀ f, SpecOk Tryz.prog f (call f)) {W : Ways} (hW : WaysOk Tryz.prog W) {f : Nat} (he : ∀ vs w, (callFunc f vs).run Tryz.prog w = .ok (.enter f vs) w) :
    SpecOk Tryz.prog f (bodyW call W f) := by
  intro args hp K h
  refine ⟨he, fun F β w hS ha => ?_⟩
  unfold bodyW at h
  cases hb : bodyOf C0.P f with
  | none => rw [hb] at h; exact h.elim
  | some fc =>
    rw [hb] at h
    obtain ⟨fn, c⟩ := fc
    unfold bodyOf at hb
    split at hb
    · rename_i fn' hfn
      split at hb
      · rename_i c' hc'
        cases hb
        exact xFun_sound c0_ok hcall hW hfn hc' h hS ha
      · cases hb
    · cases hb
theorem body_ok {call : Nat → SpecT} (hcall : ∀ f, SpecOk Tryz.prog f (call f)) {L : Nat → LoopT} (hL : ∀ b, LoopOk Tryz.prog (L b)) {f : Nat} (he : ∀ vs w, (callFunc f vs).run Tryz.prog w = .ok (.enter f vs) w) :
    SpecOk Tryz.prog f (body call L f) := bodyW_ok hcall ⟨hL, fun _ => PieceOk.id _⟩ he

/-! ### Lists of bytes -/

/-- A list of integers that one owns, with room behind it. -/
def obs (id : Nat) (xs : List Int) (vs : List Value) : SV := .slice id (.lit 0) (.v xs.length) (.v (xs.length + vs.length))
def obh (k : IntKind) (t : TypeId) (xs : List Int) (vs : List Value) : SObj := .cells (.cons (.run k (.v xs.length) (.list xs)) (.cons (.blob (.v vs.length) vs) .nil)) t false
def Cells (vs : List Value) : Prop := ∀ v ∈ vs, v.oneCell' = true

end Sw
