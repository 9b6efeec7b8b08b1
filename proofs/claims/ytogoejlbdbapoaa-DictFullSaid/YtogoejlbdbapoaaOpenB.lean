/- Arguments that are slices of one-cell elements: texts, rows. -/
import Derived.Test.YtogoejlbdbapoaaOpen
import Derived.Deep.Slices
import Derived.SliceStrings
namespace Go.Proofs.Ytogoejlbdbapoaa
set_option maxRecDepth 100000
set_option maxHeartbeats 2000000
set_option linter.unusedVariables false
set_option linter.unusedSimpArgs false
open Go.ChangeShapes Go.WideShapes Go.ChangeAt Go.RowKit Go.Deep

theorem choose_pairs {α : Type} (n : Nat) (V : Nat → Value) (Q : Value → α → Prop) (h : ∀ i, i < n → ∃ x, Q (V i) x) : ∃ xs : List (Value × α), xs.length = n ∧ (∀ x ∈ xs, Q x.1 x.2) ∧ ∀ i, i < n → (xs.map Prod.fst)[i]? = some (V i) := by
  induction n with
  | zero => exact ⟨[], rfl, fun x hx => by simp at hx, fun i hi => by omega⟩
  | succ n ih =>
    obtain ⟨xs, h1, h2, h3⟩ := ih (fun i hi => h i (by omega))
    obtain ⟨x, hx⟩ := h n (by omega)
    refine ⟨xs ++ [(V n, x)], by simp [h1], ?_, ?_⟩
    · intro y hy
      rcases List.mem_append.1 hy with hy | hy
      · exact h2 y hy
      · simp at hy; subst hy; exact hx
    · intro i hi
      rw [List.map_append]
      by_cases hin : i < n
      · rw [List.getElem?_append_left (by simp [h1]; omega)]; exact h3 i hin
      · obtain rfl : i = n := by omega
        rw [List.getElem?_append_right (by simp [h1])]; simp [h1]

theorem open_Sl1 {α H : Type} {enc : TypeId × Value → H} {P : Program} {w : World} {base : Nat} {spare : Nat → Bool} {held : Bool} {t e : TypeId} {a : Option Addr} {len cap : Nat} {d : DataW H} {p : List MemPlace}
    (ht : P.underlying t = some (.slice e)) (hC : P.cellsOf e = 1) (h : DataW.Trod enc P w base spare held t (.slice a len cap) d p) (Q : Value → α → Prop)
    (hQ : ∀ v y n, DataW.trod enc P w base spare held n e [v] = some y → ∃ x, Q v x) :
    ∃ xs : List (Value × α), Sl w (.slice a len cap) xs.length (xs.map Prod.fst) ∧ ∀ x ∈ xs, Q x.1 x.2 := by
  obtain ⟨fuel, hf⟩ := h
  rcases open_slice1 ht hC hf with ⟨hcs, _⟩ | ⟨x, l, c, m, n, V, D, Pl, hcs, _, hl, hm, hz, _, hcell⟩
  · simp [Value.cells] at hcs
    obtain ⟨rfl, rfl, rfl⟩ := hcs
    exact ⟨[], Sl.nil w, fun x hx => by simp at hx⟩
  · simp [Value.cells] at hcs
    obtain ⟨rfl, rfl, rfl⟩ := hcs
    have hlm : len ≤ m := by split at hz <;> omega
    obtain ⟨xs, h1, h2, h3⟩ := choose_pairs len V Q (fun i hi => hQ _ _ _ (hcell i (by omega)).2)
    refine ⟨xs, ⟨_, _, by rw [h1], by omega, hm, fun hp => ?_⟩, h2⟩
    obtain ⟨b, o, spot⟩ := x
    have h0 : 0 < m := by simp at hp; omega
    have hs : spot = none := by
      have := (hcell 0 h0).1
      simpa [Addr.add] using World.cell?_spot this
    subst hs
    refine ⟨b, o, rfl, fun i u hu => ?_⟩
    have hi : i < len := by
      have := (List.getElem?_eq_some_iff.1 hu).1
      rwa [List.length_map, h1] at this
    rw [h3 i hi] at hu
    cases hu
    have := (hcell i (by omega)).1
    rwa [addr_add] at this

/-- Texts. -/
def Strs (w : World) (v : Value) (ss : List ByteArray) : Prop := Sl w v ss.length (ss.map Value.string)
theorem pairs_eq {α : Type} (f : α → Value) (xs : List (Value × α)) (h : ∀ x ∈ xs, x.1 = f x.2) : xs.map Prod.fst = (xs.map Prod.snd).map f := by
  rw [List.map_map]
  exact List.map_congr_left fun x hx => h x hx
theorem open_Strs {H : Type} {enc : TypeId × Value → H} {P : Program} {w : World} {base : Nat} {spare : Nat → Bool} {held : Bool} {t e : TypeId} {a : Option Addr} {len cap : Nat} {d : DataW H} {p : List MemPlace}
    (ht : P.underlying t = some (.slice e)) (he : P.underlying e = some .string) (hC : P.cellsOf e = 1) (h : DataW.Trod enc P w base spare held t (.slice a len cap) d p) :
    ∃ ss, Strs w (.slice a len cap) ss ∧ ∀ s ∈ ss, s.size ≤ 9223372036854775807 := by
  obtain ⟨xs, h1, h2⟩ := open_Sl1 ht hC h (fun v (s : ByteArray) => v = .string s ∧ s.size ≤ 9223372036854775807) (fun v y n hy => by
    obtain ⟨s, e1, rfl, hs⟩ := DataW.trod_string he hy
    simp at e1
    unfold maxLen at hs
    exact ⟨s, e1, hs⟩)
  refine ⟨xs.map Prod.snd, ?_, ?_⟩
  · unfold Strs
    rw [List.length_map, ← pairs_eq Value.string xs (fun x hx => (h2 x hx).1)]
    exact h1
  · intro s hs
    obtain ⟨x, hx, rfl⟩ := List.mem_map.1 hs
    exact (h2 x hx).2

/-- Rows of numbers. -/
def RowsV (w : World) (k : IntKind) (v : Value) (xs : List (Value × List Int)) : Prop := Sl w v xs.length (xs.map Prod.fst) ∧ ∀ x ∈ xs, Ints w k x.1 x.2
theorem open_Rows {H : Type} {enc : TypeId × Value → H} {P : Program} {w : World} {base : Nat} {spare : Nat → Bool} {held : Bool} {t e q : TypeId} {k : IntKind} {a : Option Addr} {len cap : Nat} {d : DataW H} {p : List MemPlace}
    (ht : P.underlying t = some (.slice e)) (he : P.underlying e = some (.slice q)) (hq : P.underlying q = some (.int k)) (hC : P.cellsOf e = 1) (hCq : P.cellsOf q = 1) (h : DataW.Trod enc P w base spare held t (.slice a len cap) d p) :
    ∃ xs, RowsV w k (.slice a len cap) xs ∧ ∀ x ∈ xs, ∀ n ∈ x.2, (Lit.int k n).wf = true := by
  obtain ⟨xs, h1, h2⟩ := open_Sl1 ht hC h (fun v (l : List Int) => Ints w k v l ∧ ∀ n ∈ l, (Lit.int k n).wf = true) (fun v y n hy => by
    have hv : ∃ a len cap, v = .slice a len cap := by
      rcases open_ints he hq hCq hy with ⟨hcs, _⟩ | ⟨x, l, c, zs, hcs, _⟩
      · simp at hcs; exact ⟨_, _, _, hcs⟩
      · simp at hcs; exact ⟨_, _, _, hcs⟩
    obtain ⟨a', len', cap', rfl⟩ := hv
    obtain ⟨zs, hz1, hz2⟩ := open_Ints he hq hCq (d := y.1) (p := y.2) ⟨n, by simpa [Value.cells] using hy⟩
    exact ⟨zs, hz1, hz2⟩)
  exact ⟨xs, ⟨h1, fun x hx => (h2 x hx).1⟩, fun x hx => (h2 x hx).2⟩

/-- A cell of a slice of one-cell elements. -/
theorem Sl.at_ {w : World} {a : Option Addr} {n c : Nat} {xs : List Value} (h : Sl w (.slice a n c) n xs) {k : Nat} (hk : k < xs.length) : ∃ b o, a = some ⟨b, o, none⟩ ∧ w.cell? ⟨b, o + k, none⟩ = some xs[k] := by
  obtain ⟨a', c', e, _, _, hc⟩ := h
  simp only [Value.slice.injEq] at e
  obtain ⟨rfl, _, rfl⟩ := e
  obtain ⟨b, o, rfl, hcell⟩ := hc (by omega)
  exact ⟨b, o, rfl, hcell k _ (List.getElem?_eq_getElem hk)⟩
theorem Sl.shape {w : World} {v : Value} {n : Nat} {xs : List Value} (h : Sl w v n xs) : ∃ a c, v = .slice a n c ∧ n ≤ c ∧ c ≤ 9223372036854775807 := by
  obtain ⟨a, c, h0, h1, h2, _⟩ := h
  unfold maxLen at h2
  exact ⟨a, c, h0, h1, h2⟩
theorem Strs.ext {w w' : World} {v : Value} {ss : List ByteArray} (h : Strs w v ss) (hx : Ext w w') : Strs w' v ss := Sl.ext h hx
theorem Strs.at_ {w : World} {a : Option Addr} {n c : Nat} {ss : List ByteArray} (h : Strs w (.slice a n c) ss) {k : Nat} (hk : k < ss.length) : ∃ b o, a = some ⟨b, o, none⟩ ∧ w.cell? ⟨b, o + k, none⟩ = some (.string ss[k]) := by
  obtain ⟨a', c', e, h1⟩ := id h
  simp only [Value.slice.injEq] at e
  obtain ⟨_, rfl, _⟩ := e
  obtain ⟨b, o, rfl, hc⟩ := Sl.at_ h (by simpa using hk : k < (ss.map Value.string).length)
  exact ⟨b, o, rfl, by simpa using hc⟩
theorem RowsV.ext {w w' : World} {k : IntKind} {v : Value} {xs : List (Value × List Int)} (h : RowsV w k v xs) (hx : Ext w w') : RowsV w' k v xs := ⟨Sl.ext h.1 hx, fun x hm => (h.2 x hm).ext hx⟩
theorem RowsV.at_ {w : World} {kd : IntKind} {a : Option Addr} {n c : Nat} {xs : List (Value × List Int)} (h : RowsV w kd (.slice a n c) xs) {k : Nat} (hk : k < xs.length) : (∃ b o, a = some ⟨b, o, none⟩ ∧ w.cell? ⟨b, o + k, none⟩ = some xs[k].1) ∧ Ints w kd xs[k].1 xs[k].2 := by
  obtain ⟨a', c', e, h1⟩ := id h.1
  simp only [Value.slice.injEq] at e
  obtain ⟨_, rfl, _⟩ := e
  obtain ⟨b, o, rfl, hc⟩ := Sl.at_ h.1 (by simpa using hk : k < (xs.map Prod.fst).length)
  exact ⟨⟨b, o, rfl, by simpa using hc⟩, h.2 _ (List.getElem_mem hk)⟩
/-- Texts held against one another. -/
theorem str_beq (x y : ByteArray) : (x.toList == y.toList) = decide (x = y) := by
  rw [Bool.eq_iff_iff, beq_iff_eq, ByteArray.toList_eq, ByteArray.toList_eq, decide_eq_true_iff]
  exact ⟨fun h => ByteArray.ext (Array.toList_inj.mp h), fun h => by rw [h]⟩
theorem str_yes {x y : ByteArray} (h : x = y) : (x.toList == y.toList) = true := by rw [str_beq]; exact decide_eq_true h
theorem str_no {x y : ByteArray} (h : x ≠ y) : (x.toList == y.toList) = false := by rw [str_beq]; exact decide_eq_false h
theorem Ints.atD {w : World} {kd : IntKind} {a : Option Addr} {n c : Nat} {l : List Int} (h : Ints w kd (.slice a n c) l) {k : Nat} (hk : k < l.length) : ∃ b o, a = some ⟨b, o, none⟩ ∧ w.cell? ⟨b, o + k, none⟩ = some (.int kd (l.getD k 0)) := by
  obtain ⟨a', c', e, h1⟩ := id h
  simp only [Value.slice.injEq] at e
  obtain ⟨_, rfl, _⟩ := e
  obtain ⟨b, o, rfl, hc⟩ := Sl.at_ h (by simpa using hk : k < (l.map (Value.int kd)).length)
  exact ⟨b, o, rfl, by simpa [List.getD, hk] using hc⟩
theorem Strs.atD {w : World} {a : Option Addr} {n c : Nat} {l : List ByteArray} (h : Strs w (.slice a n c) l) {k : Nat} (hk : k < l.length) : ∃ b o, a = some ⟨b, o, none⟩ ∧ w.cell? ⟨b, o + k, none⟩ = some (.string (l.getD k ⟨#[]⟩)) := by
  obtain ⟨b, o, rfl, hc⟩ := h.at_ hk
  exact ⟨b, o, rfl, by simpa [List.getD, hk] using hc⟩
theorem Ints.len {w : World} {kd : IntKind} {a : Option Addr} {n c : Nat} {l : List Int} (h : Ints w kd (.slice a n c) l) : l.length = n := by obtain ⟨_, _, e, _⟩ := h; cases e; rfl
theorem Strs.len {w : World} {a : Option Addr} {n c : Nat} {l : List ByteArray} (h : Strs w (.slice a n c) l) : l.length = n := by obtain ⟨_, _, e, _⟩ := h; cases e; rfl
end Go.Proofs.Ytogoejlbdbapoaa
