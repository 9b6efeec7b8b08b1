/- Rows of tokens in memory. -/
import Derived.Test.YtofglbngnjcpeaaDoorLexE
import Derived.Deep.Fields
import Derived.ChangeSame
namespace Go.Proofs.YtofglbngnjcpeaaDoor
set_option maxRecDepth 100000
set_option maxHeartbeats 2000000
set_option linter.unusedVariables false
set_option linter.unusedSimpArgs false
open Go.RowKit Go.ChangeShapes Go.WideShapes Go.Deep

theorem flatMap_at {α : Type} (f : α → List Value) (m : Nat) (hf : ∀ x, (f x).length = m) (l : List α) (k i : Nat) (hk : k < l.length) (hi : i < m) : (l.flatMap f)[k * m + i]? = (f l[k])[i]? := by
  induction l generalizing k with
  | nil => simp at hk
  | cons x l ih =>
    rw [List.flatMap_cons]
    cases k with
    | zero => rw [List.getElem?_append_left (by rw [hf]; omega)]; simp
    | succ k =>
      rw [List.getElem?_append_right (by rw [hf, Nat.add_mul]; omega), hf, show (k + 1) * m + i - m = k * m + i from by rw [Nat.add_mul]; omega]
      rw [ih k (by simpa using hk)]
      simp
theorem flatMap_len {α : Type} (f : α → List Value) (m : Nat) (hf : ∀ x, (f x).length = m) (l : List α) : (l.flatMap f).length = l.length * m := by
  induction l with
  | nil => simp
  | cons x l ih => rw [List.flatMap_cons, List.length_append, hf, ih, List.length_cons, Nat.add_mul]; omega

def tkCells (t : Tk) : List Value := [.int .i64 t.kind, .string t.text, .int .i64 t.at_]
def Toks (w : World) (v : Value) (l : List Tk) : Prop := Sl w v l.length (l.flatMap tkCells)
theorem Toks.ext {w w' : World} {v : Value} {l : List Tk} (h : Toks w v l) (hx : Ext w w') : Toks w' v l := Sl.ext h hx
theorem Toks.shape {w : World} {v : Value} {l : List Tk} (h : Toks w v l) : ∃ a c, v = .slice a l.length c ∧ l.length ≤ c ∧ c ≤ 9223372036854775807 := Sl.shape h
theorem Toks.at_ {w : World} {a : Option Addr} {n c : Nat} {l : List Tk} (h : Toks w (.slice a n c) l) {k : Nat} (hk : k < l.length) : ∃ b o, a = some ⟨b, o, none⟩ ∧
    w.cell? ⟨b, o + k * 3, none⟩ = some (.int .i64 l[k].kind) ∧ w.cell? ⟨b, o + k * 3 + 1, none⟩ = some (.string l[k].text) ∧ w.cell? ⟨b, o + k * 3 + 2, none⟩ = some (.int .i64 l[k].at_) := by
  obtain ⟨a', c', e, _, _, hc⟩ := id h
  simp only [Value.slice.injEq] at e
  obtain ⟨rfl, _, rfl⟩ := e
  have hlen := flatMap_len tkCells 3 (fun _ => rfl) l
  obtain ⟨b, o, rfl, hcell⟩ := hc (by omega)
  have h0 := flatMap_at tkCells 3 (fun _ => rfl) l k 0 hk (by omega)
  have h1 := flatMap_at tkCells 3 (fun _ => rfl) l k 1 hk (by omega)
  have h2 := flatMap_at tkCells 3 (fun _ => rfl) l k 2 hk (by omega)
  exact ⟨b, o, rfl, hcell _ _ h0, by rw [Nat.add_assoc]; exact hcell _ _ h1, by rw [Nat.add_assoc]; exact hcell _ _ h2⟩

section
variable {H : Type} {enc : TypeId × Value → H} {P : Program} {w : World} {base : Nat} {spare : Nat → Bool} {held : Bool}
theorem open_slice_fields {t e : TypeId} {fs : Array Field} {fuel : Nat} {cs : List Value} {x : DataW H × List MemPlace} (ht : P.underlying t = some (.slice e)) (he : P.underlying e = some (.struct fs))
    (hone : oneCellFields P fs = true) (hC : P.cellsOf e = fs.size) (h : DataW.trod enc P w base spare held fuel t cs = some x) :
    (cs = [.slice none 0 0]) ∨
    ∃ (a : Addr) (len cap m : Nat), cs = [.slice (some a) len cap] ∧ len ≤ cap ∧ cap ≤ maxLen ∧ m = (if spare a.block then cap else len) ∧
      ∀ i, i < m → ∃ (n : Nat), ∀ (j : Nat) (f : Field), fs[j]? = some f → ∃ (v : Value) (y : DataW H × List MemPlace), w.cell? (a.add (i * fs.size + j)) = some v ∧ DataW.trod enc P w base spare held n f.type [v] = some y := by
  rcases open_slice ht h with h0 | ⟨a, len, cap, m, n, D, Pl, hcs, hb, hl, hm, hmm, hx, hi⟩
  · exact .inl h0.1
  · refine .inr ⟨a, len, cap, m, hcs, hl, hm, hmm, fun i him => ?_⟩
    obtain ⟨cs', hc, ht'⟩ := hi i him
    rw [hC] at hc
    obtain ⟨ys, n', hn', hy, hlen, hyl, hf⟩ := DataW.trod_struct he ht'
    obtain ⟨_, hcl, hat⟩ := World.cells?_some hc
    refine ⟨n', fun j f hj => ?_⟩
    obtain ⟨ho, hk⟩ := hone_of hone j f hj
    have hjl : j < fs.size := (Array.getElem?_eq_some_iff.1 hj).1
    have hcell := hat j hjl
    have hv : cs'[j]? = some (cs'[j]'(by omega)) := List.getElem?_eq_getElem (by omega)
    have h1 := hf j f hj
    rw [ho, hk] at h1
    have hone' : (cs'.drop j).take 1 = [cs'[j]'(by omega)] := by
      rw [List.drop_eq_getElem_cons (by omega)]
      rfl
    rw [hone'] at h1
    have hys : ys[j]? = some (ys[j]'(by omega)) := List.getElem?_eq_getElem (by omega)
    refine ⟨_, _, ?_, h1.trans hys⟩
    rw [← Go.Deep.add_add, hcell, hv]
end
/-- What each of n is, as a row. -/
theorem choose_row {α : Type} (n : Nat) (Q : Nat → α → Prop) (h : ∀ i, i < n → ∃ x, Q i x) : ∃ xs : List α, xs.length = n ∧ ∀ i (hi : i < xs.length), Q i xs[i] := by
  induction n with
  | zero => exact ⟨[], rfl, fun i hi => by simp at hi⟩
  | succ n ih =>
    obtain ⟨xs, h1, h2⟩ := ih (fun i hi => h i (by omega))
    obtain ⟨x, hx⟩ := h n (by omega)
    refine ⟨xs ++ [x], by simp [h1], fun i hi => ?_⟩
    by_cases hin : i < xs.length
    · rw [List.getElem_append_left hin]; exact h2 i hin
    · have : i = n := by simp at hi; omega
      subst this
      rw [List.getElem_append_right (by omega)]; simpa [h1] using hx
/-- A view of structs of m one-cell fields, from what each field reads as. -/
theorem sl_of_rows {α : Type} {w : World} {x : Addr} {len cap m : Nat} (f : α → List Value) (hf : ∀ y, (f y).length = m) (hm0 : 0 < m) (hl : len ≤ cap) (hc : cap ≤ maxLen) (xs : List α) (hx : xs.length = len)
    (h : ∀ i (hi : i < xs.length) j v, (f xs[i])[j]? = some v → w.cell? (x.add (i * m + j)) = some v) : Sl w (.slice (some x) len cap) len (xs.flatMap f) := by
  refine ⟨_, cap, rfl, hl, hc, fun hp => ?_⟩
  have hlen := flatMap_len f m hf xs
  have hx0 : 0 < xs.length := by
    rcases Nat.eq_zero_or_pos xs.length with h0 | h0
    · rw [hlen, h0] at hp; simp at hp
    · exact h0
  obtain ⟨b, o, spot⟩ := x
  have hs : spot = none := by
    have h00 : (f xs[0])[0]? = some ((f xs[0])[0]'(by rw [hf]; exact hm0)) := List.getElem?_eq_getElem _
    have := h 0 hx0 0 _ h00
    simpa [Addr.add] using World.cell?_spot this
  subst hs
  refine ⟨b, o, rfl, fun i u hu => ?_⟩
  have hi : i < xs.length * m := by rw [← hlen]; exact (List.getElem?_eq_some_iff.1 hu).1
  have hk : i / m < xs.length := Nat.div_lt_of_lt_mul (by rw [Nat.mul_comm]; exact hi)
  have hr : i % m < m := Nat.mod_lt _ hm0
  have hdm : i = i / m * m + i % m := by rw [Nat.mul_comm]; exact (Nat.div_add_mod i m).symm
  have hat := flatMap_at f m hf xs (i / m) (i % m) hk hr
  rw [← hdm] at hat
  have := h _ hk (i % m) u (by rw [← hat]; exact hu)
  rw [addr_add, ← hdm] at this
  exact this

theorem open_toks {H : Type} {enc : TypeId × Value → H} {w : World} {M : Reach} {base base' : Nat} {spare : Nat → Bool} {held : Bool} {v : Value} {d : DataW H} {p : List MemPlace}
    (ho : Value.okWide Tryd.prog w M base' 23 v) (h : DataW.Trod enc Tryd.prog w base spare held 23 v d p) :
    ∃ l, Toks w v l ∧ ∀ t ∈ l, t.text.size ≤ 9223372036854775807 ∧ -9223372036854775808 ≤ t.kind ∧ t.kind ≤ 9223372036854775807 ∧ -9223372036854775808 ≤ t.at_ ∧ t.at_ ≤ 9223372036854775807 := by
  obtain ⟨a, len, cap, rfl⟩ := okWide_slice Tryd.underlying23 ho
  obtain ⟨fuel, hf⟩ := h
  rcases open_slice_fields Tryd.underlying23 Tryd.underlying28 (by kernel_rfl) (by kernel_rfl) hf with hcs | ⟨x, l, c, m, hcs, hl, hm, hz, hcell⟩
  · simp [Value.cells] at hcs
    obtain ⟨rfl, rfl, rfl⟩ := hcs
    exact ⟨[], Sl.nil w, fun t ht => by simp at ht⟩
  · simp [Value.cells] at hcs
    obtain ⟨rfl, rfl, rfl⟩ := hcs
    have hlm : len ≤ m := by split at hz <;> omega
    obtain ⟨xs, hx1, hx2⟩ := choose_row len (fun i (t : Tk) => (∀ j v, (tkCells t)[j]? = some v → w.cell? (x.add (i * 3 + j)) = some v) ∧ t.text.size ≤ 9223372036854775807 ∧ -9223372036854775808 ≤ t.kind ∧ t.kind ≤ 9223372036854775807 ∧ -9223372036854775808 ≤ t.at_ ∧ t.at_ ≤ 9223372036854775807) (fun i hi => by
      obtain ⟨n, hfs⟩ := hcell i (by omega)
      obtain ⟨v0, y0, h0, t0⟩ := hfs 0 _ rfl
      obtain ⟨v1, y1, h1, t1⟩ := hfs 1 _ rfl
      obtain ⟨v2, y2, h2, t2⟩ := hfs 2 _ rfl
      obtain ⟨q0, e0, _, w0⟩ := DataW.trod_int Tryd.underlying3 t0
      obtain ⟨q1, e1, _, w1⟩ := DataW.trod_string Tryd.underlying9 t1
      obtain ⟨q2, e2, _, w2⟩ := DataW.trod_int Tryd.underlying3 t2
      simp at e0 e1 e2
      subst e0 e1 e2
      have b0 := bd_i64 w0
      have b2 := bd_i64 w2
      unfold maxLen at w1
      refine ⟨⟨q0, q1, q2⟩, fun j v hj => ?_, w1, b0.1, b0.2, b2.1, b2.2⟩
      match j, hj with
      | 0, hj => cases hj; exact h0
      | 1, hj => cases hj; exact h1
      | 2, hj => cases hj; exact h2)
    refine ⟨xs, ?_, fun t ht => ?_⟩
    · have := sl_of_rows (w := w) (x := x) tkCells (m := 3) (fun _ => rfl) (by omega) hl hm xs hx1 (fun i hi j v hj => (hx2 i hi).1 j v hj)
      unfold Toks; rw [hx1]; exact this
    · obtain ⟨i, hi, rfl⟩ := List.getElem_of_mem ht
      exact (hx2 i hi).2
end Go.Proofs.YtofglbngnjcpeaaDoor
