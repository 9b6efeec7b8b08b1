/- Rows of structs of one-cell fields in memory. No program in sight. -/
import Derived.Test.YtilbofkpjgcchaaDoorKit
import Derived.Deep.Fields
import Derived.ChangeSame
namespace Go.Proofs.YtilbofkpjgcchaaDoor
set_option maxRecDepth 100000
set_option maxHeartbeats 2000000
set_option linter.unusedVariables false
set_option linter.unusedSimpArgs false
open Go.RowKit Go.ChangeShapes Go.WideShapes Go.Deep

theorem flatMap_at {α : Type} (f : α → List Value) (m : Nat) (hf : ∀ x, (f x).length = m) (l : List α) (k i : Nat) (hk : k < l.length) (hi : i < m) : (l.flatMap f)[k * m + i]? = (f l[k])[i]? := by
  induction l generalizing k with
  | nil => simp at hk
  | cons x l ih =>
    rw [List.flatMap_cons]
    cases k with
    | zero => rw [List.getElem?_append_left (by rw [hf]; omega)]; simp
    | succ k =>
      rw [List.getElem?_append_right (by rw [hf, Nat.add_mul]; omega), hf, show (k + 1) * m + i - m = k * m + i from by rw [Nat.add_mul]; omega]
      rw [ih k (by simpa using hk)]
      simp
theorem flatMap_len {α : Type} (f : α → List Value) (m : Nat) (hf : ∀ x, (f x).length = m) (l : List α) : (l.flatMap f).length = l.length * m := by
  induction l with
  | nil => simp
  | cons x l ih => rw [List.flatMap_cons, List.length_append, hf, ih, List.length_cons, Nat.add_mul]; omega

section
variable {H : Type} {enc : TypeId × Value → H} {P : Program} {w : World} {base : Nat} {spare : Nat → Bool} {held : Bool}
theorem open_slice_fields {t e : TypeId} {fs : Array Field} {fuel : Nat} {cs : List Value} {x : DataW H × List MemPlace} (ht : P.underlying t = some (.slice e)) (he : P.underlying e = some (.struct fs))
    (hone : oneCellFields P fs = true) (hC : P.cellsOf e = fs.size) (h : DataW.trod enc P w base spare held fuel t cs = some x) :
    (cs = [.slice none 0 0]) ∨
    ∃ (a : Addr) (len cap m : Nat), cs = [.slice (some a) len cap] ∧ len ≤ cap ∧ cap ≤ maxLen ∧ m = (if spare a.block then cap else len) ∧
      ∀ i, i < m → ∃ (n : Nat), ∀ (j : Nat) (f : Field), fs[j]? = some f → ∃ (v : Value) (y : DataW H × List MemPlace), w.cell? (a.add (i * fs.size + j)) = some v ∧ DataW.trod enc P w base spare held n f.type [v] = some y := by
  rcases open_slice ht h with h0 | ⟨a, len, cap, m, n, D, Pl, hcs, hb, hl, hm, hmm, hx, hi⟩
  · exact .inl h0.1
  · refine .inr ⟨a, len, cap, m, hcs, hl, hm, hmm, fun i him => ?_⟩
    obtain ⟨cs', hc, ht'⟩ := hi i him
    rw [hC] at hc
    obtain ⟨ys, n', hn', hy, hlen, hyl, hf⟩ := DataW.trod_struct he ht'
    obtain ⟨_, hcl, hat⟩ := World.cells?_some hc
    refine ⟨n', fun j f hj => ?_⟩
    obtain ⟨ho, hk⟩ := hone_of hone j f hj
    have hjl : j < fs.size := (Array.getElem?_eq_some_iff.1 hj).1
    have hcell := hat j hjl
    have hv : cs'[j]? = some (cs'[j]'(by omega)) := List.getElem?_eq_getElem (by omega)
    have h1 := hf j f hj
    rw [ho, hk] at h1
    have hone' : (cs'.drop j).take 1 = [cs'[j]'(by omega)] := by
      rw [List.drop_eq_getElem_cons (by omega)]
      rfl
    rw [hone'] at h1
    have hys : ys[j]? = some (ys[j]'(by omega)) := List.getElem?_eq_getElem (by omega)
    refine ⟨_, _, ?_, h1.trans hys⟩
    rw [← Go.Deep.add_add, hcell, hv]
end
/-- What each of n is, as a row. -/
theorem choose_row {α : Type} (n : Nat) (Q : Nat → α → Prop) (h : ∀ i, i < n → ∃ x, Q i x) : ∃ xs : List α, xs.length = n ∧ ∀ i (hi : i < xs.length), Q i xs[i] := by
  induction n with
  | zero => exact ⟨[], rfl, fun i hi => by simp at hi⟩
  | succ n ih =>
    obtain ⟨xs, h1, h2⟩ := ih (fun i hi => h i (by omega))
    obtain ⟨x, hx⟩ := h n (by omega)
    refine ⟨xs ++ [x], by simp [h1], fun i hi => ?_⟩
    by_cases hin : i < xs.length
    · rw [List.getElem_append_left hin]; exact h2 i hin
    · have : i = n := by simp at hi; omega
      subst this
      rw [List.getElem_append_right (by omega)]; simpa [h1] using hx
/-- A view of structs of m one-cell fields, from what each field reads as. -/
theorem sl_of_rows {α : Type} {w : World} {x : Addr} {len cap m : Nat} (f : α → List Value) (hf : ∀ y, (f y).length = m) (hm0 : 0 < m) (hl : len ≤ cap) (hc : cap ≤ maxLen) (xs : List α) (hx : xs.length = len)
    (h : ∀ i (hi : i < xs.length) j v, (f xs[i])[j]? = some v → w.cell? (x.add (i * m + j)) = some v) : Sl w (.slice (some x) len cap) len (xs.flatMap f) := by
  refine ⟨_, cap, rfl, hl, hc, fun hp => ?_⟩
  have hlen := flatMap_len f m hf xs
  have hx0 : 0 < xs.length := by
    rcases Nat.eq_zero_or_pos xs.length with h0 | h0
    · rw [hlen, h0] at hp; simp at hp
    · exact h0
  obtain ⟨b, o, spot⟩ := x
  have hs : spot = none := by
    have h00 : (f xs[0])[0]? = some ((f xs[0])[0]'(by rw [hf]; exact hm0)) := List.getElem?_eq_getElem _
    have := h 0 hx0 0 _ h00
    simpa [Addr.add] using World.cell?_spot this
  subst hs
  refine ⟨b, o, rfl, fun i u hu => ?_⟩
  have hi : i < xs.length * m := by rw [← hlen]; exact (List.getElem?_eq_some_iff.1 hu).1
  have hk : i / m < xs.length := Nat.div_lt_of_lt_mul (by rw [Nat.mul_comm]; exact hi)
  have hr : i % m < m := Nat.mod_lt _ hm0
  have hdm : i = i / m * m + i % m := by rw [Nat.mul_comm]; exact (Nat.div_add_mod i m).symm
  have hat := flatMap_at f m hf xs (i / m) (i % m) hk hr
  rw [← hdm] at hat
  have := h _ hk (i % m) u (by rw [← hat]; exact hu)
  rw [addr_add, ← hdm] at this
  exact this

end Go.Proofs.YtilbofkpjgcchaaDoor
