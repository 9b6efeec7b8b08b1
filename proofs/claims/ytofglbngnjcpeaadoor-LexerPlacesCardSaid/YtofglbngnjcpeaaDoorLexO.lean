/- The reference's Number. -/
import Derived.Test.YtofglbngnjcpeaaDoorLexN
namespace Go.Proofs.YtofglbngnjcpeaaDoor
set_option maxRecDepth 100000
set_option maxHeartbeats 2000000
set_option linter.unusedVariables false
set_option linter.unusedSimpArgs false
open Go.RowKit

def numD : Int → List UInt8 → Option Int
  | n, [] => some n
  | n, c :: l => if 48 ≤ c.toNat ∧ c.toNat ≤ 57 then numD (10 * n + (c.toNat - 48 : Nat)) l else none
theorem numD_no {n : Int} {c : UInt8} {l : List UInt8} (h : ¬ (48 ≤ c.toNat ∧ c.toNat ≤ 57)) : numD n (c :: l) = none := by unfold numD; rw [if_neg h]
theorem numD_yes {n : Int} {c : UInt8} {l : List UInt8} (h : 48 ≤ c.toNat ∧ c.toNat ≤ 57) : numD n (c :: l) = numD (10 * n + (c.toNat - 48 : Nat)) l := by
  show (if 48 ≤ c.toNat ∧ c.toNat ≤ 57 then _ else _) = _
  rw [if_pos h]
def capD (r : Option Int) : Int := match r with | some n => if 2147483647 < n then -1 else n | none => -1
def numR (k : Int) (l : List UInt8) : Int := if k ≠ 1 ∨ l = [] ∨ 10 < l.length ∨ 1 < l.length ∧ l.head? = some 48 then -1 else capD (numD 0 l)

theorem pow10 (k : Nat) (h : k ≤ 10) : (10 : Int) ^ k ≤ 10000000000 := by
  have : k = 0 ∨ k = 1 ∨ k = 2 ∨ k = 3 ∨ k = 4 ∨ k = 5 ∨ k = 6 ∨ k = 7 ∨ k = 8 ∨ k = 9 ∨ k = 10 := by omega
  rcases this with rfl | rfl | rfl | rfl | rfl | rfl | rfl | rfl | rfl | rfl | rfl <;> decide
end Go.Proofs.YtofglbngnjcpeaaDoor
