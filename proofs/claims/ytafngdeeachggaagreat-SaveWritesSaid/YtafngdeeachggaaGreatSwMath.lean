/- The two sums are the same. -/
import Derived.Test.YtafngdeeachggaaGreatSwRefBP
set_option linter.unusedVariables false
set_option linter.unusedSimpArgs false
namespace Sw
set_option maxRecDepth 100000
open Go Go.Proofs Vx

theorem mixB_nat (a b : Nat) (ha : a < 2) (hb : b < 2) : mixB a b = ((a + b) % 2 : Nat) := by
  unfold mixB
  rw [w64 _ (by omega) (by omega), Int.tmod_eq_emod_of_nonneg (by omega)]
  omega
theorem bit_nat (w : Nat) : IntKind.i64.wrap ((w : Int) % 2) = ((w % 2 : Nat) : Int) := by
  rw [w64 _ (by omega) (by omega)]; omega
/-- Bits, mixed and put together, are the exclusive or. -/
theorem mix_xor : ∀ (k : Nat), k ≤ 64 → ∀ (w b : Nat), wordB (mixL (bitsB k w) (bitsB k b)) = (((w ^^^ b) % 2 ^ k : Nat) : Int)
  | 0, _, w, b => by simp [bitsB, mixL, wordB, Nat.mod_one]
  | k + 1, hk, w, b => by
    have ih := mix_xor k (by omega) (w / 2) (b / 2)
    have e1 : bitsB (k + 1) w = ((w % 2 : Nat) : Int) :: bitsB k ((w / 2 : Nat) : Int) := by
      rw [bitsB, bit_nat]; congr 1
    have e2 : bitsB (k + 1) b = ((b % 2 : Nat) : Int) :: bitsB k ((b / 2 : Nat) : Int) := by
      rw [bitsB, bit_nat]; congr 1
    rw [e1, e2]
    show IntKind.u64.wrap (IntKind.u64.wrap (wordB (mixL (bitsB k _) (bitsB k _)) * 2) + IntKind.u64.wrap (mixB _ _)) = _
    rw [ih, mixB_nat _ _ (by omega) (by omega), wu64, wu64, wu64]
    have h1 : (w / 2 ^^^ b / 2) = (w ^^^ b) / 2 := (Nat.xor_div_two).symm
    have h2 : (w ^^^ b) % 2 = (w + b) % 2 := by
      have := Nat.xor_mod_two_eq_one (a := w) (b := b)
      omega
    rw [h1]
    generalize w ^^^ b = z at *
    have h3 : z / 2 % 2 ^ k < 2 ^ k := Nat.mod_lt _ (Nat.two_pow_pos k)
    have h4 : 2 ^ k ≤ 2 ^ 63 := Nat.pow_le_pow_right (by decide) (by omega)
    have h5 : z % 2 ^ (k + 1) = z % 2 + 2 * (z / 2 % 2 ^ k) := by
      rw [Nat.pow_succ, Nat.mul_comm, Nat.mod_mul]
    rw [h5]
    have h6 : (2 : Nat) ^ 63 = 9223372036854775808 := by decide
    generalize z / 2 % 2 ^ k = q at *
    generalize 2 ^ k = p at *
    omega
theorem step_eq {w b : Int} (hw : 0 ≤ w ∧ w < 4294967296) (hb : IsByte b) : stepB w b = checkStep w b := by
  obtain ⟨hb1, hb2⟩ := hb
  obtain ⟨W, rfl⟩ := Int.eq_ofNat_of_zero_le hw.1
  obtain ⟨B, rfl⟩ := Int.eq_ofNat_of_zero_le hb1
  have eB : IntKind.u64.wrap (B : Int) = (B : Int) := by rw [wu64]; omega
  unfold stepB checkStep
  rw [eB, bits_eq, bits_eq, mix_xor 64 (by decide) W B, u64_xor_nat _ _ (by omega) (by omega)]
  have hx : W ^^^ B < 2 ^ 32 := Nat.xor_lt_two_pow (by omega) (by omega)
  have hm : (W ^^^ B) % 2 ^ 64 = W ^^^ B := Nat.mod_eq_of_lt (by omega)
  rw [hm]
  generalize W ^^^ B = z at *
  have e : IntKind.u64.wrap ((z : Int) * 16777619) = ((z * 16777619 : Nat) : Int) := by rw [wu64]; omega
  rw [e, show (4294967295 : Int) = ((4294967295 : Nat) : Int) from rfl, u64_and_nat _ _ (by omega) (by decide), Int.tmod_eq_emod_of_nonneg (by omega)]
  have h32 : z * 16777619 &&& 4294967295 = z * 16777619 % 4294967296 := Nat.and_two_pow_sub_one_eq_mod _ 32
  rw [h32]
  omega
theorem sum_eq_from : ∀ (l : List Int) (w : Int), (0 ≤ w ∧ w < 4294967296) → (∀ b ∈ l, IsByte b) → l.foldl stepB w = l.foldl checkStep w ∧ (0 ≤ l.foldl checkStep w ∧ l.foldl checkStep w < 4294967296)
  | [], w, hw, _ => ⟨rfl, hw⟩
  | b :: l, w, hw, h => by
    simp only [List.foldl_cons]
    rw [step_eq hw (h b List.mem_cons_self)]
    exact sum_eq_from l _ (checkStep_range w b) fun c hc => h c (List.mem_cons_of_mem _ hc)
theorem sum_eq {l : List Int} (h : ∀ b ∈ l, IsByte b) : sumB l = checkB l ∧ 0 ≤ checkB l ∧ checkB l < 4294967296 :=
  sum_eq_from l _ ⟨by decide, by decide⟩ h
theorem word_eq {w : Int} (h : 0 ≤ w ∧ w < 4294967296) : word4 w = ref4 w := by
  have s1 : shr8 w = w / 256 := shr_u64 w h.1 8 (by decide)
  have s2 : shr8 (w / 256) = w / 256 / 256 := shr_u64 _ (by omega) 8 (by decide)
  have s3 : shr8 (w / 256 / 256) = w / 256 / 256 / 256 := shr_u64 _ (by omega) 8 (by decide)
  have t1 : IntKind.u64.wrap (w.tdiv 256) = w / 256 := by rw [Int.tdiv_eq_ediv_of_nonneg h.1, wu64]; omega
  have t2 : IntKind.u64.wrap ((w / 256).tdiv 256) = w / 256 / 256 := by rw [Int.tdiv_eq_ediv_of_nonneg (by omega), wu64]; omega
  have t3 : IntKind.u64.wrap ((w / 256 / 256).tdiv 256) = w / 256 / 256 / 256 := by rw [Int.tdiv_eq_ediv_of_nonneg (by omega), wu64]; omega
  unfold word4 ref4
  rw [s1, s2, s3, t1, t2, t3]
  rw [Int.tmod_eq_emod_of_nonneg h.1, Int.tmod_eq_emod_of_nonneg (by omega : 0 ≤ w / 256), Int.tmod_eq_emod_of_nonneg (by omega : 0 ≤ w / 256 / 256), Int.tmod_eq_emod_of_nonneg (by omega : 0 ≤ w / 256 / 256 / 256)]
  simp only [IntKind.wrap_u8']
  simp
end Sw
