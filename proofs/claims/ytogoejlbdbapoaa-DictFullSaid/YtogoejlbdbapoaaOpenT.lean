/- An argument that is a table. -/
import Derived.Test.YtogoejlbdbapoaaOpenB
import Derived.Test.YtogoejlbdbapoaaProg
import Derived.Lib.SmallJoins
namespace Go.Proofs.Ytogoejlbdbapoaa
set_option maxRecDepth 100000
set_option maxHeartbeats 2000000
set_option linter.unusedVariables false
set_option linter.unusedSimpArgs false
open Go.ChangeShapes Go.WideShapes Go.ChangeAt Go.RowKit Go.Deep Go.Joins

theorem trod_slice_shape {H : Type} {enc : TypeId × Value → H} {P : Program} {w : World} {base : Nat} {spare : Nat → Bool} {held : Bool} {n : Nat} {t e : TypeId} {v : Value} {y : DataW H × List MemPlace}
    (ht : P.underlying t = some (.slice e)) (h : DataW.trod enc P w base spare held n t [v] = some y) : ∃ a len cap, v = .slice a len cap := by
  rcases open_slice ht h with ⟨hcs, _⟩ | ⟨a, len, cap, m, k, D, Pl, hcs, _⟩
  · simp at hcs; exact ⟨_, _, _, hcs⟩
  · simp at hcs; exact ⟨_, _, _, hcs⟩
theorem open_table {H : Type} {enc : TypeId × Value → H} {w : World} {M : Reach} {base base' : Nat} {spare : Nat → Bool} {held : Bool} {v : Value} {d : DataW H} {p : List MemPlace}
    (ho : Value.okWide Try.prog w M base' 25 v) (h : DataW.Trod enc Try.prog w base spare held 25 v d p) :
    ∃ T S a n c b m e, v = .agg #[.slice a n c, .slice b m e] ∧ Strs w (.slice a n c) T ∧ Ints w .i64 (.slice b m e) S ∧ ∀ s ∈ T, s.size ≤ 9223372036854775807 := by
  obtain ⟨v0, v1, y0, y1, n, rfl, _, _, h0, h1⟩ := open_agg2 Try.underlying25 (by kernel_rfl) (by kernel_rfl) ho h
  obtain ⟨a, len, cap, rfl⟩ := trod_slice_shape Try.underlying22 h0
  obtain ⟨b, len', cap', rfl⟩ := trod_slice_shape Try.underlying23 h1
  obtain ⟨T, hT, hTs⟩ := open_Strs (d := y0.1) (p := y0.2) Try.underlying22 Try.underlying9 (by kernel_rfl) ⟨n, by simpa [Value.cells] using h0⟩
  obtain ⟨S, hS, _⟩ := open_Ints (d := y1.1) (p := y1.2) Try.underlying23 Try.underlying3 (by kernel_rfl) ⟨n, by simpa [Value.cells] using h1⟩
  exact ⟨T, S, _, _, _, _, _, _, rfl, hT, hS, hTs⟩
end Go.Proofs.Ytogoejlbdbapoaa
