/- save.number does what is said. -/
import Derived.Test.YtafngdeeachggaaGreatSwNumV
import Derived.Laws.BitsAllLaws
import Derived.Laws.Bits128
set_option linter.unusedVariables false
set_option linter.unusedSimpArgs false
namespace Sw
set_option maxRecDepth 100000
open Go Go.Proofs Vx

theorem bits_eq (op : BinOp) (k : IntKind) (x y : Int) : Vx.bits op k x y = Go.bits op k x y := by cases op <;> rfl
theorem numB_fuel : ∀ k n, n < 2 ^ (7 * (k + 1)) → numB (k + 1) n = numB (k + 2) n
  | 0, n, h => by
    have h : n < 128 := by simpa using h
    simp [numB, h]
  | k + 1, n, h => by
    unfold numB
    split
    · rfl
    · have : n / 128 < 2 ^ (7 * (k + 1)) := by
        rw [show 7 * (k + 1 + 1) = 7 * (k + 1) + 7 by omega, Nat.pow_add] at h
        rw [Nat.div_lt_iff_lt_mul (by decide)]
        exact h
      rw [numB_fuel k _ this]
theorem numB_step {n : Nat} (h1 : 128 ≤ n) (h2 : n < 18446744073709551616) : numB 10 n = ((n % 128 + 128 : Nat) : Int) :: numB 10 (n / 128) := by
  have h3 : n / 128 < 2 ^ (7 * (8 + 1)) := by omega
  rw [← numB_fuel 8 (n / 128) h3]
  show (if n < 128 then _ else _) = _
  rw [if_neg (by omega)]
theorem numB_last {n : Nat} (h : n < 128) : numB 10 n = [(n : Int)] := by
  show (if n < 128 then _ else _) = _
  rw [if_pos h]
theorem numB_len : ∀ k n, (numB k n).length ≤ k
  | 0, _ => Nat.le_refl _
  | k + 1, n => by
    unfold numB
    split
    · simp
    · simp only [List.length_cons]
      have := numB_len k (n / 128)
      omega
theorem or128 (n : Int) (h : 0 ≤ n) : Vx.bits .or .u8 (IntKind.u8.wrap n) 128 = n % 128 + 128 := by
  rw [bits_eq, IntKind.wrap_u8']
  rw [u8_or _ _ (by omega) (by omega) (by decide) (by decide)]
  have h2 : (n % 256).toNat ||| (128 : Int).toNat = (n % 128).toNat + 128 := by
    obtain ⟨m, rfl⟩ := Int.eq_ofNat_of_zero_le h
    have e1 : ((m : Int) % 256).toNat = m % 256 := by omega
    have e2 : ((m : Int) % 128).toNat = m % 128 := by omega
    rw [e1, e2]
    show m % 256 ||| 128 = _
    have : ∀ a, a < 256 → a ||| 128 = a % 128 + 128 := by decide +kernel
    rw [this _ (by omega)]; omega
  rw [h2]; omega
theorem shr_u64 (n : Int) (h : 0 ≤ n) (k : Nat) (hk : k ≤ 64) : shft .shr .u64 n (k : Int) = n / 2 ^ k := by
  show n.fdiv (2 ^ (min (k : Int).toNat 64)) = _
  have : min (k : Int).toNat 64 = k := by omega
  rw [this]
  exact Int.fdiv_eq_ediv_of_nonneg _ (Int.le_of_lt (Int.pow_pos (by decide)))

theorem num_ok : conNum.Vc body40 := by
  rw [num_vc]
  intro x hx
  have hx : NumPre x := hx
  obtain ⟨hn0, hn1, hl⟩ := hx
  refine ⟨⟨x.xs ++ numB 10 x.n.toNat, x.G⟩, x, rfl, rfl, rfl, rfl, rfl, rfl, rfl, Sub.refl _, ⟨rfl, rfl, hn0, hn1, ?_⟩, ?_⟩
  · have := numB_len 10 x.n.toNat
    simp only [List.length_append]; omega
  · intro y hy d
    obtain ⟨h1, h2, h3, h4, h5⟩ := (hy : NumInv _ y)
    have h6 := h5
    have h1 : y.xs ++ numB 10 y.n.toNat = x.xs ++ numB 10 x.n.toNat := h1
    have h2 : y.G = x.G := h2
    have hlen : y.xs.length + (numB 10 y.n.toNat).length ≤ 1000000010 := by rw [← List.length_append, h1]; exact h5
    clear h5
    refine ⟨fun hb r hr r1 hr1 => ?_, fun hb r hr => ?_⟩
    · have hb := of_decide_eq_true hb
      have hst := numB_step (n := y.n.toNat) (by omega) (by omega)
      have hl2 : 1 ≤ (numB 10 y.n.toNat).length := by rw [hst]; simp
      refine ⟨by omega, fun _ => ⟨by omega, fun _ => ⟨rfl, fun _ => ⟨by omega, fun _ => ⟨by omega, fun _ c vs hc hvs hcells r2 hr2 => ?_⟩⟩⟩⟩⟩
      have e2 : r2 = y.n / 128 := by
        rw [hr2]; exact shr_u64 y.n h3 7 (by decide)
      have e1 : r1 = ((y.n.toNat % 128 + 128 : Nat) : Int) := by
        rw [hr1, hr, or128 _ h3]; omega
      refine ⟨⟨y.xs ++ [r1], vs, r2, y.G⟩, ⟨?_, h2, ?_, ?_, h6⟩, ?_, by simp, by simp; omega, rfl, rfl, by simp, rfl, hvs, Sub.refl _, trivial⟩
      · rw [← h1, hst, e1, e2]
        simp only [List.append_assoc, List.singleton_append]
        congr 3
        omega
      · simp only []; omega
      · simp only []; omega
      · show (r2).toNat < y.n.toNat
        omega
    · have hb := of_decide_eq_false hb
      have hst := numB_last (n := y.n.toNat) (by omega)
      have hl2 : 1 ≤ (numB 10 y.n.toNat).length := by rw [hst]; simp
      refine ⟨by omega, fun _ => ⟨by omega, fun _ => ⟨rfl, fun _ => ⟨by omega, fun _ => ⟨by omega, fun _ c vs hc hvs hcells => ?_⟩⟩⟩⟩⟩
      have e1 : r = ((y.n.toNat : Nat) : Int) := by
        rw [hr, IntKind.wrap_u8']; omega
      refine ⟨⟨y.xs ++ [r], vs⟩, ?_, by simp, by simp; omega, rfl, by simp, rfl, hvs, h2 ▸ Sub.refl _, trivial⟩
      show y.xs ++ [r] = x.xs ++ numB 10 x.n.toNat
      rw [← h1, hst, e1]
theorem spec40 : SpecOk Tryz.prog 40 conNum.spec :=
  Con.sound (body_ok (fun f => noSpec_ok _ f) (fun _ => (famL_ok numL _).ok) (fun vs w => Tryz.call40 vs w)) num_ok
end Sw
