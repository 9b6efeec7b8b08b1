/- Hashes of texts: plain, no program in sight. -/
import Derived.Test.YtkhmkgobmfhchaaBase
import Derived.Laws.BitsAllLaws
namespace Go.Proofs.Ytkhmkgobmfhchaa

/-- A text's bytes. -/
def sbt (s : ByteArray) : List Int := s.data.toList.map fun u => (u.toNat : Int)
theorem sbt_len (s : ByteArray) : (sbt s).length = s.size := by simp [sbt]
theorem sbt_byt (s : ByteArray) : Byt (sbt s) := fun c hc => by
  obtain ⟨u, _, rfl⟩ := List.mem_map.1 hc
  have := u.toNat_lt
  omega
def hashStep (h c : Int) : Int := ((h.toNat ^^^ c.toNat : Nat) : Int) * 1099511628211 % 18446744073709551616
def hashL (h : Int) : List Int → Int
  | [] => h
  | c :: l => hashL (hashStep h c) l
theorem hashL_snoc (h : Int) (l : List Int) (c : Int) : hashL h (l ++ [c]) = hashStep (hashL h l) c := by
  induction l generalizing h with
  | nil => rfl
  | cons x l ih => simp [hashL, ih]
theorem hashStep_range (h c : Int) : 0 ≤ hashStep h c ∧ hashStep h c < 18446744073709551616 := ⟨Int.emod_nonneg _ (by omega), Int.emod_lt_of_pos _ (by omega)⟩
theorem hashL_range (h : Int) (l : List Int) (h0 : 0 ≤ h) (h1 : h < 18446744073709551616) : 0 ≤ hashL h l ∧ hashL h l < 18446744073709551616 := by
  induction l generalizing h with
  | nil => exact ⟨h0, h1⟩
  | cons x l ih => exact ih _ (hashStep_range h x).1 (hashStep_range h x).2

theorem sbt_get (s : ByteArray) (k : Nat) (h : k < s.size) : (sbt s)[k]'(by rw [sbt_len]; exact h) = (s[k].toNat : Int) := by
  unfold sbt
  rw [List.getElem_map]
  rfl
theorem wrap64 (n : Int) : IntKind.u64.wrap n = n % 18446744073709551616 := by simp [IntKind.wrap, IntKind.bits, IntKind.signed]
theorem xor_step (h c : Int) (h0 : 0 ≤ h) (h1 : h < 18446744073709551616) (c0 : 0 ≤ c) (c1 : c < 256) : IntKind.u64.wrap (bits .xor .u64 h c * 1099511628211) = hashStep h c := by
  rw [wrap64, u64_xor h c h0 h1 c0 (by omega)]
  rfl
/-- The bits that are turned, the first k of them. -/
def turn (a c : Nat) : Nat → Nat
  | 0 => 0
  | k + 1 => if a / 2 ^ k % 2 ≠ c / 2 ^ k % 2 then turn a c k + 2 ^ k else turn a c k
theorem turn_succ (a c k : Nat) : turn a c (k + 1) = if a / 2 ^ k % 2 ≠ c / 2 ^ k % 2 then turn a c k + 2 ^ k else turn a c k := rfl
theorem turn_xor (a c k : Nat) : turn a c k = (a ^^^ c) % 2 ^ k := by
  induction k with
  | zero => simp [turn, Nat.mod_one]
  | succ k ih =>
    rw [turn_succ, Nat.mod_pow_succ, ← ih]
    rw [Nat.xor_div_two_pow]
    have hm : ∀ x y : Nat, (x ^^^ y) % 2 = (x % 2 ^^^ y % 2) := fun x y => by
      have := @Nat.xor_mod_two_pow x y 1
      simpa using this
    rw [hm]
    have e1 : a / 2 ^ k % 2 = 0 ∨ a / 2 ^ k % 2 = 1 := by omega
    have e2 : c / 2 ^ k % 2 = 0 ∨ c / 2 ^ k % 2 = 1 := by omega
    rcases e1 with e1 | e1 <;> rcases e2 with e2 | e2 <;> simp [e1, e2]
theorem turn_lt (a c k : Nat) : turn a c k < 2 ^ k := by rw [turn_xor]; exact Nat.mod_lt _ (Nat.pow_pos (by omega))
theorem xor_turn (h c : Nat) (hc : c < 256) : h ^^^ c = h - h % 256 + turn (h % 256) c 8 := by
  rw [turn_xor]
  have hx : (h % 256 ^^^ c) % 2 ^ 8 = (h ^^^ c) % 256 := by
    rw [show (256 : Nat) = 2 ^ 8 from rfl, Nat.xor_mod_two_pow, Nat.xor_mod_two_pow, Nat.mod_mod]
  have hd : (h ^^^ c) / 256 = h / 256 := by
    rw [show (256 : Nat) = 2 ^ 8 from rfl, Nat.xor_div_two_pow, Nat.div_eq_of_lt (show c < 2 ^ 8 from hc)]; simp
  rw [hx]
  have := Nat.div_add_mod (h ^^^ c) 256
  have := Nat.div_add_mod h 256
  omega
end Go.Proofs.Ytkhmkgobmfhchaa
