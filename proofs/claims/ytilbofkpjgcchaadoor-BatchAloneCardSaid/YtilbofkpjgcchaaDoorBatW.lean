/- What the condition on the package-level variable gives the walks. -/
import Derived.Test.YtilbofkpjgcchaaDoorBatB
import Derived.Test.YtilbofkpjgcchaaDoorRows
import Derived.ProofKit
import Derived.LaidMore
import Derived.OpenShut
import Derived.Stop.Joined
namespace Go.Proofs.YtilbofkpjgcchaaDoor
set_option maxRecDepth 100000
set_option maxHeartbeats 2000000
set_option linter.unusedVariables false
set_option linter.unusedSimpArgs false
open Go.RowKit Go.ChangeShapes Go.WideShapes Go.ChangeAt Go.WideElems

def laidW : List (String × DataW Unit) := [("colander/batch.ways", Rows.laid_colander_batch_ways)]
theorem take1 {α : Type} {cs : List α} {i : Nat} {v : α} (h : (cs.drop i).take 1 = [v]) : cs[i]? = some v := by
  have := congrArg (fun l => l[0]?) h
  simpa [List.getElem?_take, List.getElem?_drop] using this
section
variable {H : Type} {enc : TypeId × Value → H} {w : World} {base : Nat} {spare : Nat → Bool} {held : Bool}
theorem bools4 {f : Nat} {cs : List Value} {b0 b1 b2 b3 : Bool} {p : List MemPlace} (h : DataW.trod enc Tryd.prog w base spare held f 52 cs = some (.agg [.lit (.bool b0), .lit (.bool b1), .lit (.bool b2), .lit (.bool b3)], p)) :
    cs[0]? = some (.bool b0) ∧ cs[1]? = some (.bool b1) ∧ cs[2]? = some (.bool b2) ∧ cs[3]? = some (.bool b3) := by
  obtain ⟨xs, m, rfl, hx, hlen, hn, hel⟩ := DataW.trod_array Tryd.underlying52 h
  have c4 : Tryd.prog.cellsOf 4 = 1 := by kernel_rfl
  rw [c4] at hel
  simp only [Prod.mk.injEq, DataW.agg.injEq] at hx
  have one : ∀ i, i < 4 → ∀ b, ([.lit (.bool b0), .lit (.bool b1), .lit (.bool b2), .lit (.bool b3)] : List (DataW H))[i]? = some (.lit (.bool b)) → cs[i]? = some (.bool b) := by
    intro i hi b hb
    have he := hel i hi
    rw [Nat.mul_one] at he
    have hxi : xs[i]? = some xs[i] := List.getElem?_eq_getElem (by omega)
    rw [hxi] at he
    obtain ⟨b', e1, e2⟩ := DataW.trod_bool Tryd.underlying4 he
    have : (xs.map (·.1))[i]? = some (.lit (.bool b')) := by rw [List.getElem?_map, hxi, e2]; rfl
    rw [← hx.1, hb] at this
    cases this
    exact take1 e1
  exact ⟨one 0 (by omega) b0 rfl, one 1 (by omega) b1 rfl, one 2 (by omega) b2 rfl, one 3 (by omega) b3 rfl⟩
theorem way5 {f : Nat} {cs : List Value} {l : List UInt8} {b0 b1 b2 b3 : Bool} {p : List MemPlace} (h : DataW.trod enc Tryd.prog w base spare held f 54 cs = some (.agg [.lit (.string l), .agg [.lit (.bool b0), .lit (.bool b1), .lit (.bool b2), .lit (.bool b3)]], p)) :
    cs[0]? = some (.string (txt l)) ∧ cs[1]? = some (.bool b0) ∧ cs[2]? = some (.bool b1) ∧ cs[3]? = some (.bool b2) ∧ cs[4]? = some (.bool b3) := by
  obtain ⟨xs, m, rfl, hx, hlen, hn, hel⟩ := DataW.trod_struct Tryd.underlying54 h
  simp only [Prod.mk.injEq, DataW.agg.injEq] at hx
  have e0 : DataW.trod enc Tryd.prog w base spare held m 9 ((cs.drop 0).take (Tryd.prog.cellsOf 9)) = xs[0]? := hel 0 _ rfl
  have e1 : DataW.trod enc Tryd.prog w base spare held m 52 ((cs.drop 1).take (Tryd.prog.cellsOf 52)) = xs[1]? := hel 1 _ rfl
  have cs9 : Tryd.prog.cellsOf 9 = 1 := by kernel_rfl
  have cs4 : Tryd.prog.cellsOf 52 = 4 := by kernel_rfl
  rw [cs9] at e0
  rw [cs4] at e1
  match xs, hn, hx, e0, e1 with
  | [x0, x1], _, hx, e0, e1 =>
    simp only [List.map_cons, List.map_nil, List.cons.injEq] at hx
    obtain ⟨s, q1, q2, _⟩ := DataW.trod_string Tryd.underlying9 (show _ = some x0 from e0)
    have hl : s.data.toList = l := by rw [q2] at hx; simpa using hx.1.1.symm
    obtain ⟨d1, p1⟩ := x1
    obtain ⟨⟨_, hd, _⟩, _⟩ := hx
    dsimp only at hd
    subst hd
    obtain ⟨r0, r1, r2, r3⟩ := bools4 (show _ = some _ from e1)
    refine ⟨by rw [take1 q1, ← hl]; rfl, ?_, ?_, ?_, ?_⟩
    · simpa [List.getElem?_take, List.getElem?_drop] using r0
    · simpa [List.getElem?_take, List.getElem?_drop] using r1
    · simpa [List.getElem?_take, List.getElem?_drop] using r2
    · simpa [List.getElem?_take, List.getElem?_drop] using r3
end
theorem of_laid {W : World} (h : laidMetH Tryd.prog laidW W) : Ways W := by
  rw [MakeChecks.laidMetH_plain _ _ _ (by kernel_rfl)] at h
  obtain ⟨ps, ⟨g, t, cs, f, p, q, hg, ht, hv, hd, _, _⟩, _⟩ := h
  obtain rfl : 0 = g := Option.some.inj ((show Tryd.prog.globalNamed "colander/batch.ways" = some 0 by kernel_rfl).symm.trans hg)
  obtain rfl : 55 = t := Option.some.inj ((show (Tryd.prog.globals[0]?).map (·.type) = some 55 by kernel_rfl).symm.trans ht)
  obtain ⟨xs, m, rfl, hx, hlen, hn, hel⟩ := DataW.trod_array Tryd.underlying55 hd
  have c5 : Tryd.prog.cellsOf 54 = 5 := by kernel_rfl
  rw [c5] at hel
  simp only [Prod.mk.injEq] at hx
  intro k hk j v hj
  have he := hel k hk
  have hxi : xs[k]? = some xs[k] := List.getElem?_eq_getElem (by omega)
  rw [hxi] at he
  have hdk : (xs[k]).1 = .agg [.lit (.string (wordOf k)), .agg [.lit (.bool (hasOf k 0)), .lit (.bool (hasOf k 1)), .lit (.bool (hasOf k 2)), .lit (.bool (hasOf k 3))]] := by
    have h1 : (xs.map (·.1))[k]? = some (xs[k]).1 := by rw [List.getElem?_map, hxi]; rfl
    have h2 : DataW.agg (xs.map (·.1)) = Rows.laid_colander_batch_ways := hx.1.symm
    unfold Rows.laid_colander_batch_ways at h2
    rw [DataW.agg.inj h2] at h1
    have hc : k = 0 ∨ k = 1 ∨ k = 2 ∨ k = 3 ∨ k = 4 ∨ k = 5 ∨ k = 6 ∨ k = 7 ∨ k = 8 := by omega
    rcases hc with rfl | rfl | rfl | rfl | rfl | rfl | rfl | rfl | rfl <;> (exact (Option.some.inj h1).symm)
  obtain ⟨d, pl⟩ : ∃ d, xs[k] = d := ⟨_, rfl⟩
  rw [pl] at he hdk
  obtain ⟨d1, d2⟩ := d
  dsimp only at hdk
  subst hdk
  obtain ⟨r0, r1, r2, r3, r4⟩ := way5 he
  have hjl : j < 5 := (List.getElem?_eq_some_iff.1 hj).1
  have hrow : ((cs.toList.drop (k * 5)).take 5)[j]? = some v := by
    have hc : j = 0 ∨ j = 1 ∨ j = 2 ∨ j = 3 ∨ j = 4 := by omega
    rcases hc with rfl | rfl | rfl | rfl | rfl
    · rw [r0]; exact hj
    · rw [r1]; exact hj
    · rw [r2]; exact hj
    · rw [r3]; exact hj
    · rw [r4]; exact hj
  rw [List.getElem?_take, if_pos hjl, List.getElem?_drop] at hrow
  have := World.var?_cell hg hv (k * 5 + j)
  rw [this]
  simpa using hrow
end Go.Proofs.YtilbofkpjgcchaaDoor
