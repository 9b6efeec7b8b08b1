/- Arguments that are rows of changes, rows of texts. -/
import Derived.Test.YtilbofkpjgcchaaDoorBatK
import Derived.Test.YtilbofkpjgcchaaDoorOpenB
import Derived.Test.YtilbofkpjgcchaaDoorOpenS
namespace Go.Proofs.YtilbofkpjgcchaaDoor
set_option maxRecDepth 100000
set_option maxHeartbeats 2000000
set_option linter.unusedVariables false
set_option linter.unusedSimpArgs false
open Go.ChangeShapes Go.WideShapes Go.ChangeAt Go.RowKit

theorem open_chs {H : Type} {enc : TypeId × Value → H} {w : World} {M : Reach} {base base' : Nat} {spare : Nat → Bool} {held : Bool} {v : Value} {d : DataW H} {p : List MemPlace}
    (ho : Value.okWide Tryd.prog w M base' 22 v) (h : DataW.Trod enc Tryd.prog w base spare held 22 v d p) :
    ∃ l, Chs w v l ∧ ∀ c ∈ l, c.Fits := by
  obtain ⟨a, len, cap, rfl⟩ := okWide_slice Tryd.underlying22 ho
  obtain ⟨fuel, hf⟩ := h
  rcases open_slice_fields Tryd.underlying22 Tryd.underlying27 (by kernel_rfl) (by kernel_rfl) hf with hcs | ⟨x, l, c, m, hcs, hl, hm, hz, hcell⟩
  · simp [Value.cells] at hcs
    obtain ⟨rfl, rfl, rfl⟩ := hcs
    exact ⟨[], Sl.nil w, fun t ht => by simp at ht⟩
  · simp [Value.cells] at hcs
    obtain ⟨rfl, rfl, rfl⟩ := hcs
    have hlm : len ≤ m := by split at hz <;> omega
    obtain ⟨xs, hx1, hx2⟩ := choose_row len (fun i (t : Ch) => (∀ j v, (Ch.cells t)[j]? = some v → w.cell? (x.add (i * 5 + j)) = some v) ∧ t.Fits) (fun i hi => by
      obtain ⟨n, hfs⟩ := hcell i (by omega)
      obtain ⟨v0, y0, h0, t0⟩ := hfs 0 _ rfl
      obtain ⟨v1, y1, h1, t1⟩ := hfs 1 _ rfl
      obtain ⟨v2, y2, h2, t2⟩ := hfs 2 _ rfl
      obtain ⟨v3, y3, h3, t3⟩ := hfs 3 _ rfl
      obtain ⟨v4, y4, h4, t4⟩ := hfs 4 _ rfl
      obtain ⟨q0, e0, _, w0⟩ := DataW.trod_int Tryd.underlying3 t0
      obtain ⟨q1, e1, _, w1⟩ := DataW.trod_string Tryd.underlying9 t1
      obtain ⟨q2, e2, _, w2⟩ := DataW.trod_string Tryd.underlying9 t2
      obtain ⟨q3, e3, _, w3⟩ := DataW.trod_string Tryd.underlying9 t3
      obtain ⟨q4, e4, _, w4⟩ := DataW.trod_string Tryd.underlying9 t4
      simp at e0 e1 e2 e3 e4
      subst e0 e1 e2 e3 e4
      unfold maxLen at w1 w2 w3 w4
      refine ⟨⟨q0, q1, q2, q3, q4⟩, fun j v hj => ?_, w1, w2, w3, w4⟩
      match j, hj with
      | 0, hj => cases hj; exact h0
      | 1, hj => cases hj; exact h1
      | 2, hj => cases hj; exact h2
      | 3, hj => cases hj; exact h3
      | 4, hj => cases hj; exact h4)
    refine ⟨xs, ?_, fun t ht => ?_⟩
    · have := sl_of_rows (w := w) (x := x) Ch.cells (m := 5) (fun _ => rfl) (by omega) hl hm xs hx1 (fun i hi j v hj => (hx2 i hi).1 j v hj)
      unfold Chs; rw [hx1]; exact this
    · obtain ⟨i, hi, rfl⟩ := List.getElem_of_mem ht
      exact (hx2 i hi).2
end Go.Proofs.YtilbofkpjgcchaaDoor
