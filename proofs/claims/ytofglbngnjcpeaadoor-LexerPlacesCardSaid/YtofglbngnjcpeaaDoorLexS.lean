/- The reference's letters, words, signs. -/
import Derived.Test.YtofglbngnjcpeaaDoorLexE
namespace Go.Proofs.YtofglbngnjcpeaaDoor
set_option maxRecDepth 100000
set_option maxHeartbeats 2000000
set_option linter.unusedVariables false
set_option linter.unusedSimpArgs false
open Go.RowKit

theorem prefix_take (s p : ByteArray) (h : p.size ≤ s.size) : ((s.extract 0 p.size).toList == p.toList) = (bts p).isPrefixOf (bts s) := by
  rw [ByteArray.toList_eq, ByteArray.toList_eq]
  have e : (s.extract 0 p.size).data.toList = (bts s).take p.size := by
    have := bts_extract s 0 p.size
    unfold bts at this ⊢
    rw [this]; simp
  rw [e, Bool.eq_iff_iff, beq_iff_eq, List.isPrefixOf_iff_prefix]
  constructor
  · intro h'
    have : bts p = (bts s).take p.size := h'.symm
    rw [this]; exact List.take_prefix _ _
  · intro h'
    have := List.prefix_iff_eq_take.1 h'
    rw [bts_len] at this
    exact this.symm
/-- A row of bytes that all hold, and how many there may be. -/
def allB (p : Int → Bool) (lo hi : Nat) (l : List UInt8) : Bool := decide (spanL p l = l.length) && (decide (lo ≤ l.length) && decide (l.length ≤ hi))
/-- What stands for a kind without a text. -/
def signR (k : Int) : List UInt8 := ((signs.find? (fun x => decide (x.1 = k))).map (·.2)).getD []
theorem signR_no {k : Int} (h : k < 4 ∨ 11 < k) : signR k = [] := by
  unfold signR
  rw [List.find?_eq_none.2 (fun x hx => by
    have : ∀ x ∈ signs, 4 ≤ x.1 ∧ x.1 ≤ 11 := by decide
    have := this x hx
    simp; omega)]
  rfl
end Go.Proofs.YtofglbngnjcpeaaDoor
