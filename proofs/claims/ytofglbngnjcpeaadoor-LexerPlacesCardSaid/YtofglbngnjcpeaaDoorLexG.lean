/- Whether tokens are the same. -/
import Derived.Test.YtofglbngnjcpeaaDoorToks
namespace Go.Proofs.YtofglbngnjcpeaaDoor
set_option maxRecDepth 100000
set_option maxHeartbeats 2000000
set_option linter.unusedVariables false
set_option linter.unusedSimpArgs false
open Go.RowKit

def Tk.same (x y : Tk) : Bool := decide (x.kind = y.kind) && decide (x.text = y.text)
def sameL : List Tk → List Tk → Bool
  | [], [] => true
  | x :: l, y :: m => x.same y && sameL l m
  | _, _ => false
theorem sameL_len {l m : List Tk} (h : l.length ≠ m.length) : sameL l m = false := by
  induction l generalizing m with
  | nil => cases m with | nil => exact absurd rfl h | cons y m => rfl
  | cons x l ih => cases m with
    | nil => rfl
    | cons y m => rw [sameL, ih (by simpa using h), Bool.and_false]
theorem sameL_drop {l m : List Tk} {k : Nat} (h1 : k < l.length) (h2 : k < m.length) : sameL (l.drop k) (m.drop k) = (l[k].same m[k] && sameL (l.drop (k + 1)) (m.drop (k + 1))) := by
  rw [List.drop_eq_getElem_cons h1, List.drop_eq_getElem_cons h2, sameL]

end Go.Proofs.YtofglbngnjcpeaaDoor
