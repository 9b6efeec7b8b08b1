/- A dictionary in memory of its own: what it asks for; New. -/
import Derived.Test.YtogoejlbdbapoaaDicG
import Derived.Test.YtogoejlbdbapoaaTabX4
import Derived.Shelf.RegionOpen
namespace Go.Proofs.Ytogoejlbdbapoaa
set_option maxRecDepth 100000
set_option maxHeartbeats 2000000
set_option linter.unusedSimpArgs false
open Go.RowKit Go.Shelf Go.Sort
attribute [local go_sem] Oper.semAt_some wide_fn wide_depth
set_option linter.unusedVariables false

theorem RowAt.set_ne {w : World} {g g' i : Nat} {t : TypeId} {xs : List Value} {v : Value} (h : RowAt w g t xs) (hne : g' ≠ g) : RowAt (w.setCell ⟨g', i, none⟩ v) g t xs := h.kept (grown_set w g' i v) (fun e => hne (Option.some.inj e))
/-- One cell after the other is written. -/
def setL : World → Nat → Nat → List Value → World
  | W, _, _, [] => W
  | W, g, i, x :: xs => setL (W.setCell ⟨g, i, none⟩ x) g (i + 1) xs
theorem own_setL {B size n : Nat} {e : TypeId} {v : Value} {ys : List Value} {g : Nat} (hg : g < B) : ∀ (xs : List Value) (i : Nat) {W : World}, W.ownsRow B e size v n ys → (setL W g i xs).ownsRow B e size v n ys
  | [], _, _, h => h
  | x :: xs, i, _, h => own_setL hg xs (i + 1) (own_kept h (grown_set _ g i x) (fun r hr => by cases hr; omega))
theorem below_setL {B g : Nat} {w : World} (hg : B ≤ g) : ∀ (xs : List Value) (i : Nat) {W : World}, Below B w W → Below B w (setL W g i xs)
  | [], _, _, h => h
  | x :: xs, i, _, h => below_setL hg xs (i + 1) (h.setCell (p := ⟨g, i, none⟩) hg x)
theorem row_setL_ne {g g' : Nat} {t : TypeId} {ys : List Value} (hg : g ≠ g') : ∀ (xs : List Value) (i : Nat) {W : World}, RowAt W g' t ys → RowAt (setL W g i xs) g' t ys
  | [], _, _, h => h
  | x :: xs, i, _, h => row_setL_ne hg xs (i + 1) (RowAt.set_ne h hg)
theorem row_setL {g : Nat} {t : TypeId} : ∀ (xs pre ys : List Value) {W : World}, RowAt W g t (pre ++ ys) → ys.length = xs.length → RowAt (setL W g pre.length xs) g t (pre ++ xs)
  | [], pre, ys, W, h, hl => by
    obtain rfl : ys = [] := List.eq_nil_of_length_eq_zero (by simpa using hl)
    exact h
  | x :: xs, pre, [], W, h, hl => by simp at hl
  | x :: xs, pre, y :: ys, W, h, hl => by
    have h1 := h.set pre.length x
    rw [show (pre ++ y :: ys).set pre.length x = (pre ++ [x]) ++ ys by simp [List.set_append]] at h1
    have := row_setL xs (pre ++ [x]) ys h1 (by simpa using hl)
    rw [show (pre ++ [x]).length = pre.length + 1 by simp, List.append_assoc] at this
    exact this
theorem heap_setL_ne {g D : Nat} (hg : g ≠ D) : ∀ (xs : List Value) (i : Nat) (W : World), (setL W g i xs).heap[D]? = W.heap[D]?
  | [], _, _ => rfl
  | x :: xs, i, W => (heap_setL_ne hg xs (i + 1) _).trans (Below.heap_setCell _ _ _ _ (fun e => hg e.symm))
theorem keeps_setL (B : Nat) {g : Nat} {t : TypeId} : ∀ (xs : List Value) (i : Nat) {ys : List Value} {W : World}, RowAt W g t ys → i + xs.length ≤ ys.length → KeepsFrom B W (setL W g i xs)
  | [], _, _, _, _, _ => KeepsFrom.refl _ _
  | x :: xs, i, ys, W, h, hl => (keeps_set B (h.cell (i := i) (v := ys[i]'(by simp at hl; omega)) (List.getElem?_eq_getElem _)) x).trans (keeps_setL B xs (i + 1) (h.set i x) (by simp at hl ⊢; omega))

/-- All tables lie in rows of their own, from block B on. -/
def DicOwn (B : Nat) (w : World) (vs : Nat → Value × Value) (D : Dic) : Prop := ∀ i, i < 5 → TabOwn B w (.agg #[(vs i).1, (vs i).2]) (D i).1 (D i).2
theorem DicOwn.ext {B : Nat} {w w' : World} {vs : Nat → Value × Value} {D : Dic} (h : DicOwn B w vs D) (hx : Ext w w') : DicOwn B w' vs D := fun i hi => (h i hi).ext hx
theorem DicOwn.base {B B' : Nat} {w : World} {vs : Nat → Value × Value} {D : Dic} (h : DicOwn B w vs D) (hb : B' ≤ B) : DicOwn B' w vs D := fun i hi => (h i hi).base hb
theorem TabOwn.setL {B : Nat} {w : World} {v : Value} {T : List ByteArray} {S : List Int} (h : TabOwn B w v T S) {g : Nat} (hg : g < B) (xs : List Value) (i : Nat) : TabOwn B (setL w g i xs) v T S := by
  obtain ⟨a, n, c, b, m, d, rfl, h1, h2⟩ := h
  exact ⟨a, n, c, b, m, d, rfl, own_setL hg xs i h1, own_setL hg xs i h2⟩
theorem TabOwn.pair {B : Nat} {w : World} {v : Value × Value} {T : List ByteArray} {S : List Int} (h : TabOwn B w (.agg #[v.1, v.2]) T S) : ∃ a c b d, v = (.slice a T.length c, .slice b S.length d) ∧
    w.ownsRow B 9 1 (.slice a T.length c) T.length (T.map Value.string) ∧ w.ownsRow B 3 1 (.slice b S.length d) S.length (S.map (Value.int .i64)) := by
  obtain ⟨a, n, c, b, m, d, e, h1, h2⟩ := h
  obtain ⟨v1, v2⟩ := v
  simp at e
  obtain ⟨rfl, rfl⟩ := e
  have e1 := ownsRow_shape h1
  have e2 := ownsRow_shape h2
  subst e1 e2
  exact ⟨a, c, b, d, rfl, h1, h2⟩
theorem DicOwn.view {B : Nat} {w : World} {vs : Nat → Value × Value} {D : Dic} (h : DicOwn B w vs D) : DicV w vs D := fun i hi => by
  obtain ⟨a, c, b, d, e, h1, h2⟩ := (h i hi).pair
  exact ⟨a, _, c, b, _, d, e, Sl.of_own h1, Sl.of_own h2⟩
/-- One table is another. -/
def upd {α : Type} (ts : Nat → α) (k : Nat) (u : α) : Nat → α := fun i => if i = k then u else ts i
theorem upd_at {α : Type} (ts : Nat → α) (k : Nat) (u : α) : upd ts k u k = u := if_pos rfl
theorem upd_ne {α : Type} (ts : Nat → α) {k i : Nat} (u : α) (h : i ≠ k) : upd ts k u i = ts i := if_neg h
theorem dcells_upd (ts : Nat → Value × Value) {k : Nat} (h : k < 5) (x y : Value) : dcells (upd ts k (x, y)) = ((dcells ts).set (k * 2) x).set (k * 2 + 1) y := by
  have hc : k = 0 ∨ k = 1 ∨ k = 2 ∨ k = 3 ∨ k = 4 := by omega
  rcases hc with rfl | rfl | rfl | rfl | rfl <;> rfl
theorem dcells_len (ts : Nat → Value × Value) : (dcells ts).length = 10 := rfl
theorem row_upd {W : World} {g : Nat} {t : TypeId} {ts : Nat → Value × Value} (h : RowAt W g t (dcells ts)) {k : Nat} (hk : k < 5) (x y : Value) : RowAt ((W.setCell ⟨g, k * 2, none⟩ x).setCell ⟨g, k * 2 + 1, none⟩ y) g t (dcells (upd ts k (x, y))) := by
  rw [dcells_upd ts hk]
  exact (h.set (k * 2) x).set (k * 2 + 1) y
/-- No names, and no slots. -/
def noV : Nat → Value × Value := fun _ => (.slice none 0 0, .slice none 0 0)
def noD : Dic := fun _ => ([], [])
theorem noV_own (B : Nat) (w : World) : DicOwn B w noV noD := fun i _ => ⟨_, _, _, _, _, _, rfl, World.ownsRow_nil _ _ _ _, World.ownsRow_nil _ _ _ _⟩
/-- Ten rows' heads. -/
abbrev Heads := Nat → Option Addr × Nat × Nat × Option Addr × Nat × Nat
def hv (A : Heads) : Nat → Value × Value := fun i => (.slice (A i).1 (A i).2.1 (A i).2.2.1, .slice (A i).2.2.2.1 (A i).2.2.2.2.1 (A i).2.2.2.2.2)
theorem heads {vs : Nat → Value × Value} (h : ∀ i, i < 5 → ∃ a n c b m d, vs i = (.slice a n c, .slice b m d)) : ∃ A, (∀ i, i < 5 → vs i = hv A i) ∧ dcells vs = dcells (hv A) := by
  have hA : ∃ A : Heads, ∀ i, i < 5 → vs i = hv A i := by
    refine ⟨fun i => match vs i with | (.slice a n c, .slice b m d) => (a, n, c, b, m, d) | _ => (none, 0, 0, none, 0, 0), fun i hi => ?_⟩
    obtain ⟨a, n, c, b, m, d, e⟩ := h i hi
    simp [hv, e]
  obtain ⟨A, hA⟩ := hA
  refine ⟨A, hA, ?_⟩
  unfold dcells
  rw [hA 0 (by omega), hA 1 (by omega), hA 2 (by omega), hA 3 (by omega), hA 4 (by omega)]
theorem set10 (W : World) (g : Nat) (x0 x1 x2 x3 x4 x5 x6 x7 x8 x9 : Value) : ((((((((((W.setCell ⟨g, 0, none⟩ x0).setCell ⟨g, 1, none⟩ x1).setCell ⟨g, 2, none⟩ x2).setCell ⟨g, 3, none⟩ x3).setCell ⟨g, 4, none⟩ x4).setCell ⟨g, 5, none⟩ x5).setCell ⟨g, 6, none⟩ x6).setCell ⟨g, 7, none⟩ x7).setCell ⟨g, 8, none⟩ x8).setCell ⟨g, 9, none⟩ x9) = setL W g 0 [x0, x1, x2, x3, x4, x5, x6, x7, x8, x9] := rfl
theorem row_set10 {g : Nat} {t : TypeId} {vs : Nat → Value × Value} {W : World} (ts : Nat → Value × Value) (h : RowAt W g t (dcells vs)) : RowAt (setL W g 0 (dcells ts)) g t (dcells ts) := row_setL (dcells ts) [] (dcells vs) h rfl
theorem RowAt.facts10f {w : World} {g : Nat} {t : TypeId} {xs : List Value} (h : RowAt w g t xs) : w.frozen? ⟨g, 0, none⟩ = false ∧ w.frozen? ⟨g, 1, none⟩ = false ∧ w.frozen? ⟨g, 2, none⟩ = false ∧ w.frozen? ⟨g, 3, none⟩ = false ∧ w.frozen? ⟨g, 4, none⟩ = false ∧ w.frozen? ⟨g, 5, none⟩ = false ∧ w.frozen? ⟨g, 6, none⟩ = false ∧ w.frozen? ⟨g, 7, none⟩ = false ∧ w.frozen? ⟨g, 8, none⟩ = false ∧ w.frozen? ⟨g, 9, none⟩ = false :=
  ⟨h.frozen 0, h.frozen 1, h.frozen 2, h.frozen 3, h.frozen 4, h.frozen 5, h.frozen 6, h.frozen 7, h.frozen 8, h.frozen 9⟩
end Go.Proofs.Ytogoejlbdbapoaa
