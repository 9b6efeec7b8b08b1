/- Numbers as bytes: plain, no program in sight. -/
import Derived.Test.YtdjkfjaffhboeaaBase
namespace Go.Proofs.Ytdjkfjaffhboeaa

/-- The bytes of a number: fuel f serves m < 2 * 128 ^ f. -/
def num : Nat → Int → List Int
  | 0, m => [m]
  | f + 1, m => if m < 128 then [m] else (m % 128 + 128) :: num f (m / 128)
theorem num_small (f : Nat) (m : Int) (h : m < 128) : num f m = [m] := by cases f <;> simp [num, h]
theorem num_big (f : Nat) (m : Int) (h : ¬ m < 128) : num (f + 1) m = (m % 128 + 128) :: num f (m / 128) := by simp [num, h]
theorem num_len (f : Nat) (m : Int) : 1 ≤ (num f m).length ∧ (num f m).length ≤ f + 1 := by
  induction f generalizing m with
  | zero => simp [num]
  | succ f ih => by_cases h : m < 128 <;> simp [num, h]; have := ih (m / 128); omega
theorem num_byt (f : Nat) (m : Int) (h0 : 0 ≤ m) (h : m < 2 * 128 ^ f) : Byt (num f m) := by
  induction f generalizing m with
  | zero => simp at h; exact Byt.cons ⟨h0, by omega⟩ Byt.nil
  | succ f ih =>
    by_cases hm : m < 128
    · rw [num_small _ _ hm]; exact Byt.cons ⟨h0, by omega⟩ Byt.nil
    · rw [num_big _ _ hm]; refine Byt.cons ⟨by omega, by omega⟩ (ih _ (by omega) ?_)
      rw [Int.pow_succ] at h; omega
set_option maxRecDepth 10000 in
theorem or128_nat : ∀ a : Fin 256, a.val ||| 128 = a.val % 128 + 128 := by decide
theorem or128 (m : Int) : bits .or .u8 (m % 256) 128 = m % 128 + 128 := by
  have h0 := Int.emod_nonneg m (show (256 : Int) ≠ 0 by omega)
  have h1 := Int.emod_lt_of_pos m (show (0 : Int) < 256 by omega)
  rw [u8_or _ _ h0 h1 (by omega) (by omega)]
  have := or128_nat ⟨(m % 256).toNat, by omega⟩
  simp only [] at this
  rw [show (128 : Int).toNat = 128 from rfl, this]
  omega

set_option maxRecDepth 10000 in
theorem and127_nat : ∀ a : Fin 256, a.val &&& 127 = a.val % 128 := by decide
theorem and127 (c : Int) (h0 : 0 ≤ c) (h1 : c < 256) : bits .and .u8 c 127 = c % 128 := by
  rw [u8_and _ _ h0 h1 (by omega) (by omega)]
  have := and127_nat ⟨c.toNat, by omega⟩
  simp only [] at this
  rw [show (127 : Int).toNat = 127 from rfl, this]
  omega
theorem wrapU (n : Int) : IntKind.u64.wrap n = n % 18446744073709551616 := by simp [IntKind.wrap, IntKind.bits, IntKind.signed]
theorem or_shift (acc c : Int) (j : Nat) (h0 : 0 ≤ acc) (h1 : acc < 128 ^ j) (h1' : acc < 18446744073709551616) (hj : j ≤ 9) (hc0 : 0 ≤ c) (hc1 : c < 256) :
    bits .or .u64 acc (IntKind.u64.wrap (IntKind.u64.wrap (bits .and .u8 c 127) * 2 ^ (7 * j))) = acc + c % 128 * 128 ^ j % 18446744073709551616 := by
  rw [and127 c hc0 hc1, wrapU, wrapU]
  have hm : c % 128 % 18446744073709551616 = c % 128 := by omega
  rw [hm]
  have hp : (2 : Int) ^ (7 * j) = 128 ^ j := by rw [Int.pow_mul]; rfl
  rw [hp]
  obtain ⟨a, rfl⟩ := Int.eq_ofNat_of_zero_le h0
  obtain ⟨d, rfl⟩ := Int.eq_ofNat_of_zero_le hc0
  have hX : ((d : Int) % 128 * 128 ^ j % 18446744073709551616) = ((d % 128 * 128 ^ j % 18446744073709551616 : Nat) : Int) := by
    rw [Int.natCast_emod, Int.natCast_mul, Int.natCast_emod, Int.natCast_pow]; rfl
  rw [hX]
  have hlt : d % 128 * 128 ^ j % 18446744073709551616 < 18446744073709551616 := Nat.mod_lt _ (by omega)
  rw [u64_or_nat _ _ (by omega) hlt, Nat.or_comm]
  have ha : a < 2 ^ (7 * j) := by
    have h2 : (2 : Nat) ^ (7 * j) = 128 ^ j := by rw [Nat.pow_mul]
    rw [h2]
    have h3 : ((128 : Int) ^ j) = ((128 ^ j : Nat) : Int) := by rw [Int.natCast_pow]; rfl
    rw [h3] at h1
    exact Int.ofNat_lt.1 h1
  have hz : d % 128 * 128 ^ j % 18446744073709551616 % 2 ^ (7 * j) = 0 := by
    have hd : (2 : Nat) ^ (7 * j) ∣ 18446744073709551616 := by
      have : (18446744073709551616 : Nat) = 2 ^ 64 := by decide
      rw [this]; exact Nat.pow_dvd_pow 2 (by omega)
    rw [Nat.mod_mod_of_dvd _ hd, show (128 : Nat) ^ j = 2 ^ (7 * j) from by rw [Nat.pow_mul]]
    exact Nat.mul_mod_left _ _
  rw [nat_join (7 * j) _ a hz ha, Int.natCast_add]
  omega
theorem shift_lt (acc c : Int) (j : Nat) (h0 : 0 ≤ acc) (h1 : acc < 128 ^ j) (hj : j ≤ 9) (hc0 : 0 ≤ c) :
    acc + c % 128 * 128 ^ j % 18446744073709551616 < 128 ^ (j + 1) ∧ acc + c % 128 * 128 ^ j % 18446744073709551616 < 18446744073709551616 ∧ 0 ≤ acc + c % 128 * 128 ^ j % 18446744073709551616 := by
  have hc1 : 0 ≤ c % 128 := by omega
  have hc2 : c % 128 < 128 := by omega
  generalize c % 128 = d at hc1 hc2
  have : j = 0 ∨ j = 1 ∨ j = 2 ∨ j = 3 ∨ j = 4 ∨ j = 5 ∨ j = 6 ∨ j = 7 ∨ j = 8 ∨ j = 9 := by omega
  rcases this with rfl | rfl | rfl | rfl | rfl | rfl | rfl | rfl | rfl | rfl <;> simp at h1 ⊢ <;> omega
end Go.Proofs.Ytdjkfjaffhboeaa
