/- TablePuts: the walk, joined. -/
import Derived.Test.YtkhmkgobmfhchaaTabLPutsN
import Derived.Test.YtkhmkgobmfhchaaTabLPutsY
namespace Go.Proofs.Ytkhmkgobmfhchaa
set_option linter.unusedVariables false
set_option linter.unusedSimpArgs false
open Go.RowKit Go.Shelf Go.Sort

theorem puts_walk (v0 : Value) (T : List ByteArray) (v1 : Value) (L : List ByteArray) (w : World)
    (h0 : ∃ S a n c b m e, v0 = .agg #[.slice a n c, .slice b m e] ∧ Strs w (.slice a n c) T ∧ Ints w .i64 (.slice b m e) S ∧ ∀ s ∈ T, s.size ≤ 9223372036854775807)
    (h1 : Strs w v1 L ∧ ∀ s ∈ L, s.size ≤ 9223372036854775807) :
    Calls Try.prog 4 #[v0, v1] w fun e w' => e = .returned (.bool true) ∧ Ext w w' := by
  obtain ⟨S, a, n, c, b, m, d, rfl, hT, hS, hTs⟩ := h0
  by_cases hok : TabOK T S
  · exact puts_yes T S a n c b m d v1 L w hT hS hTs hok h1
  · exact puts_no T S a n c b m d v1 L w hT hS hTs hok h1
end Go.Proofs.Ytkhmkgobmfhchaa
