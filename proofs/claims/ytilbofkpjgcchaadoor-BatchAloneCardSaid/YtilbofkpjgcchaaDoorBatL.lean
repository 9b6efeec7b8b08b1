/- The lines of a text: plain. -/
import Derived.Test.YtilbofkpjgcchaaDoorBatE
namespace Go.Proofs.YtilbofkpjgcchaaDoor
set_option maxRecDepth 100000
set_option maxHeartbeats 2000000
set_option linter.unusedVariables false
set_option linter.unusedSimpArgs false
open Go.RowKit

def lineN (l : List UInt8) : Nat := spanL (notB 10) l
theorem lineN_le (l : List UInt8) : lineN l ≤ l.length := spanL_le _ l
def linesF : Nat → List UInt8 → List (List UInt8)
  | 0, _ => []
  | f + 1, l => if l = [] then [] else if lineN l < l.length then l.take (lineN l + 1) :: linesF f (l.drop (lineN l + 1)) else [l]
def linesL (l : List UInt8) : List (List UInt8) := linesF l.length l
theorem linesF_more : ∀ (f : Nat) (l : List UInt8), l.length ≤ f → linesF f l = linesF (f + 1) l
  | 0, l, h => by
    have : l = [] := List.eq_nil_of_length_eq_zero (by omega)
    subst this; rfl
  | f + 1, l, h => by
    by_cases h0 : l = []
    · subst h0; rfl
    · have hp : 0 < l.length := List.length_pos_iff.2 h0
      unfold linesF
      rw [if_neg h0, if_neg h0]
      split
      · rw [linesF_more f _ (by rw [List.length_drop]; omega)]
      · rfl
theorem linesF_any (f : Nat) (l : List UInt8) (h : l.length ≤ f) (j : Nat) : linesF f l = linesF (f + j) l := by
  induction j with
  | zero => rfl
  | succ j ih => rw [ih, linesF_more (f + j) l (by omega)]; rfl
theorem linesL_nil : linesL [] = [] := rfl
theorem linesL_cut {l : List UInt8} (h : lineN l < l.length) : linesL l = l.take (lineN l + 1) :: linesL (l.drop (lineN l + 1)) := by
  have h0 : l ≠ [] := by rintro rfl; simp at h
  have hp : 0 < l.length := List.length_pos_iff.2 h0
  unfold linesL
  rw [show l.length = (l.length - 1) + 1 from by omega]
  conv => lhs; unfold linesF
  rw [if_neg h0, if_pos h]
  congr 1
  have hd : (l.drop (lineN l + 1)).length ≤ l.length - 1 := by rw [List.length_drop]; omega
  rw [linesF_any _ _ (Nat.le_refl _) (l.length - 1 - (l.drop (lineN l + 1)).length), show (l.drop (lineN l + 1)).length + (l.length - 1 - (l.drop (lineN l + 1)).length) = l.length - 1 from by omega]
theorem linesL_end {l : List UInt8} (h0 : l ≠ []) (h : ¬ lineN l < l.length) : linesL l = [l] := by
  have hp : 0 < l.length := List.length_pos_iff.2 h0
  unfold linesL
  rw [show l.length = (l.length - 1) + 1 from by omega]
  unfold linesF
  rw [if_neg h0, if_neg h]
theorem linesL_len : ∀ (n : Nat) (l : List UInt8), l.length ≤ n → (linesL l).length ≤ l.length
  | 0, l, h => by
    have : l = [] := List.eq_nil_of_length_eq_zero (by omega)
    subst this; exact Nat.le_refl _
  | n + 1, l, h => by
    by_cases h0 : l = []
    · subst h0; exact Nat.le_refl _
    · by_cases hc : lineN l < l.length
      · rw [linesL_cut hc, List.length_cons]
        have := linesL_len n (l.drop (lineN l + 1)) (by rw [List.length_drop]; omega)
        rw [List.length_drop] at this
        omega
      · rw [linesL_end h0 hc]; exact List.length_pos_iff.2 h0
theorem linesL_mem : ∀ (n : Nat) (l : List UInt8), l.length ≤ n → ∀ x ∈ linesL l, x.length ≤ l.length ∧ x ≠ []
  | 0, l, h => by
    have : l = [] := List.eq_nil_of_length_eq_zero (by omega)
    subst this; intro x hx; rw [linesL_nil] at hx; cases hx
  | n + 1, l, h => by
    by_cases h0 : l = []
    · subst h0; intro x hx; rw [linesL_nil] at hx; cases hx
    · have hp : 0 < l.length := List.length_pos_iff.2 h0
      by_cases hc : lineN l < l.length
      · rw [linesL_cut hc]
        intro x hx
        rcases List.mem_cons.1 hx with rfl | hx
        · refine ⟨by rw [List.length_take]; omega, fun e => ?_⟩
          have := congrArg List.length e
          rw [List.length_take, List.length_nil] at this
          omega
        · have := linesL_mem n (l.drop (lineN l + 1)) (by rw [List.length_drop]; omega) x hx
          refine ⟨?_, this.2⟩
          have h1 := this.1
          rw [List.length_drop] at h1
          omega
      · rw [linesL_end h0 hc]
        intro x hx
        rw [List.mem_singleton] at hx
        subst hx
        exact ⟨Nat.le_refl _, h0⟩
end Go.Proofs.YtilbofkpjgcchaaDoor
