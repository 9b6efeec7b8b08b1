/- Two structs are made by two calls, each kept in a box of its own, in one statement: whatever order the calls, the boxes and the stores come in. No program in sight. -/
import Derived.Test.YthoneahamnmjlaaGreatDoorGp02
import Derived.Test.YthoneahamnmjlaaGreatDoorGp00
import Derived.Laws.Tables
import Derived.Laws.Rows
import Derived.Deep.MidRow
import Derived.Test.YthoneahamnmjlaaGreatDoorGp01
namespace Go.Proofs.YthoneahamnmjlaaGreatDoor
set_option maxRecDepth 100000
set_option maxHeartbeats 2000000
set_option linter.unusedSimpArgs false
open Go.RowKit Go.Sort
set_option linter.unusedVariables false

/-- Cells of a block are written, one behind the other. -/
def setC : World → Nat → Nat → List Value → World
  | W, _, _, [] => W
  | W, g, i, x :: xs => setC (W.setCell ⟨g, i, none⟩ x) g (i + 1) xs
theorem row_setC_ne {g g' : Nat} {t : TypeId} {ys : List Value} (hg : g ≠ g') : ∀ (xs : List Value) (i : Nat) {W : World}, RowAt W g' t ys → RowAt (setC W g i xs) g' t ys
  | [], _, _, h => h
  | x :: xs, i, _, h => row_setC_ne hg xs (i + 1) (h.kept (grown_set _ g i x) (fun e => hg (Option.some.inj e)))
theorem row_setC {g : Nat} {t : TypeId} : ∀ (xs pre ys : List Value) {W : World}, RowAt W g t (pre ++ ys) → ys.length = xs.length → RowAt (setC W g pre.length xs) g t (pre ++ xs)
  | [], pre, ys, W, h, hl => by
    obtain rfl : ys = [] := List.eq_nil_of_length_eq_zero (by simpa using hl)
    exact h
  | x :: xs, pre, y :: ys, W, h, hl => by
    have h1 := h.set pre.length x
    rw [List.set_append_right _ _ (Nat.le_refl _), Nat.sub_self, List.set_cons_zero] at h1
    have h2 := row_setC xs (pre ++ [x]) ys (W := W.setCell ⟨g, pre.length, none⟩ x) (by rw [List.append_assoc]; exact h1) (by simpa using hl)
    rw [List.length_append, List.length_singleton, List.append_assoc] at h2
    exact h2
theorem below_setC {B g : Nat} {w : World} (hg : B ≤ g) : ∀ (xs : List Value) (i : Nat) {W : World}, Below B w W → Below B w (setC W g i xs)
  | [], _, _, h => h
  | x :: xs, i, _, h => below_setC hg xs (i + 1) (h.setCell (p := ⟨g, i, none⟩) hg x)
theorem grown_setC {g : Nat} : ∀ (xs : List Value) (i : Nat) (W : World), W.grownBy (setC W g i xs) (some g)
  | [], _, W => (grown_ext (Ext.refl W)).but _
  | x :: xs, i, W => (grown_set W g i x).trans (grown_setC xs (i + 1) _)
theorem own_setC_ne {W : World} {B size n g : Nat} {e t : TypeId} {v : Value} {xs ys : List Value} (h : W.ownsRow B e size v n xs) (hr : RowAt W g t ys) (hne : e ≠ t) (zs : List Value) (i : Nat) : (setC W g i zs).ownsRow B e size v n xs := by
  refine ⟨h.1, ?_⟩
  rcases h.2 with hn | ⟨g', cap, cur, rfl, hbg, hgg, rest⟩
  · exact .inl hn
  · refine .inr ⟨g', cap, cur, rfl, hbg, ?_, rest⟩
    have hg : g' ≠ g := by
      rintro rfl
      have h1 := hgg.symm.trans hr
      simp only [Option.some.injEq, Obj.cells.injEq] at h1
      exact hne h1.2.1
    exact ((grown_setC zs i W).block g' (Array.getElem?_eq_some_iff.1 hgg).1 (fun e => hg (Option.some.inj e))).trans hgg
/-- What is so stays so where memory is made, and where the boxes are written. -/
structure Firm (T0 T1 : TypeId) (O : World → Value → Prop) : Prop where
  ext : ∀ {W W' : World} {c : Value}, Ext W W' → O W c → O W' c
  set : ∀ {W : World} {g : Nat} {t : TypeId} {ys xs : List Value} {i : Nat} {c : Value}, RowAt W g t ys → (t = T0 ∨ t = T1) → O W c → O (setC W g i xs) c
structure PairF (w0 : World) (V0 V1 : Value) (O0 O1 : World → Value → Prop) (T0 T1 : TypeId) (z0 z1 : List Value) (S : Nat → Bool) (l0 c0 l1 c1 x0 x1 : Value) (W : World) : Prop where
  ext : Ext w0 W
  a0 : S 0 = true → l0 = V0
  a1 : S 1 = true → O0 W c0
  a2 : S 2 = true → l1 = V1
  a3 : S 3 = true → O1 W c1
  a4 : S 4 = true → ∃ g, x0 = .pointer (some ⟨g, 0, none⟩) ∧ w0.heap.size ≤ g ∧ RowAt W g T0 (if S 6 = true then c0.cells.toList else z0)
  a5 : S 5 = true → ∃ g, x1 = .pointer (some ⟨g, 0, none⟩) ∧ w0.heap.size ≤ g ∧ RowAt W g T1 (if S 7 = true then c1.cells.toList else z1)
  ne : S 4 = true → S 5 = true → x0 ≠ x1
  d6 : S 6 = true → S 1 = true
  d7 : S 7 = true → S 3 = true
  s6 : S 6 = true → S 4 = true
  s7 : S 7 = true → S 5 = true
/-- As the region's law wants it. -/
def PairG (w0 : World) (V0 V1 : Value) (O0 O1 : World → Value → Prop) (T0 T1 : TypeId) (z0 z1 : List Value) (S : Nat → Bool) (us : List Value) (W : World) : Prop :=
  ∃ l0 c0 l1 c1 x0 x1, us = [l0, c0, l1, c1, x0, x1] ∧ PairF w0 V0 V1 O0 O1 T0 T1 z0 z1 S l0 c0 l1 c1 x0 x1 W
section
variable {w0 : World} {V0 V1 : Value} {O0 O1 : World → Value → Prop} {T0 T1 : TypeId} {z0 z1 : List Value} {S : Nat → Bool} {l0 c0 l1 c1 x0 x1 : Value} {W : World}
theorem PairG.start (us : List Value) (hl : us.length = 6) (hx : Ext w0 W) : PairG w0 V0 V1 O0 O1 T0 T1 z0 z1 (fun _ => false) us W := by
  match us, hl with
  | [l0, c0, l1, c1, x0, x1], _ => exact ⟨l0, c0, l1, c1, x0, x1, rfl, hx, nofun, nofun, nofun, nofun, nofun, nofun, nofun, nofun, nofun, nofun, nofun⟩
theorem PairF.g (h : PairF w0 V0 V1 O0 O1 T0 T1 z0 z1 S l0 c0 l1 c1 x0 x1 W) : PairG w0 V0 V1 O0 O1 T0 T1 z0 z1 S [l0, c0, l1, c1, x0, x1] W := ⟨_, _, _, _, _, _, rfl, h⟩
theorem PairF.load0 (h : PairF w0 V0 V1 O0 O1 T0 T1 z0 z1 S l0 c0 l1 c1 x0 x1 W) : PairG w0 V0 V1 O0 O1 T0 T1 z0 z1 (updB S 0) [V0, c0, l1, c1, x0, x1] W :=
  PairF.g ⟨h.ext, fun _ => rfl, h.a1, h.a2, h.a3, h.a4, h.a5, h.ne, h.d6, h.d7, h.s6, h.s7⟩
theorem PairF.load1 (h : PairF w0 V0 V1 O0 O1 T0 T1 z0 z1 S l0 c0 l1 c1 x0 x1 W) : PairG w0 V0 V1 O0 O1 T0 T1 z0 z1 (updB S 2) [l0, c0, V1, c1, x0, x1] W :=
  PairF.g ⟨h.ext, h.a0, h.a1, fun _ => rfl, h.a3, h.a4, h.a5, h.ne, h.d6, h.d7, h.s6, h.s7⟩
theorem PairF.call0 (h : PairF w0 V0 V1 O0 O1 T0 T1 z0 z1 S l0 c0 l1 c1 x0 x1 W) (F1 : Firm T0 T1 O1) (hn : S 1 = false) {W' : World} {u : Value} (hx : Ext W W') (ho : O0 W' u) :
    PairG w0 V0 V1 O0 O1 T0 T1 z0 z1 (updB S 1) [l0, u, l1, c1, x0, x1] W' := by
  have h6 : ¬ S 6 = true := fun e => by have := h.d6 e; rw [hn] at this; cases this
  refine PairF.g ⟨h.ext.trans hx, h.a0, fun _ => ho, h.a2, fun e => F1.ext hx (h.a3 e), fun e => ?_, fun e => ?_, h.ne, fun _ => rfl, fun e => h.d7 e, h.s6, h.s7⟩
  · obtain ⟨g, e1, e2, e3⟩ := h.a4 e
    rw [if_neg h6] at e3
    exact ⟨g, e1, e2, by rw [if_neg (show ¬ updB S 1 6 = true from h6)]; exact e3.ext hx⟩
  · obtain ⟨g, e1, e2, e3⟩ := h.a5 e
    exact ⟨g, e1, e2, e3.ext hx⟩
theorem PairF.call1 (h : PairF w0 V0 V1 O0 O1 T0 T1 z0 z1 S l0 c0 l1 c1 x0 x1 W) (F0 : Firm T0 T1 O0) (hn : S 3 = false) {W' : World} {u : Value} (hx : Ext W W') (ho : O1 W' u) :
    PairG w0 V0 V1 O0 O1 T0 T1 z0 z1 (updB S 3) [l0, c0, l1, u, x0, x1] W' := by
  have h7 : ¬ S 7 = true := fun e => by have := h.d7 e; rw [hn] at this; cases this
  refine PairF.g ⟨h.ext.trans hx, h.a0, fun e => F0.ext hx (h.a1 e), h.a2, fun _ => ho, fun e => ?_, fun e => ?_, h.ne, fun e => h.d6 e, fun _ => rfl, h.s6, h.s7⟩
  · obtain ⟨g, e1, e2, e3⟩ := h.a4 e
    exact ⟨g, e1, e2, e3.ext hx⟩
  · obtain ⟨g, e1, e2, e3⟩ := h.a5 e
    rw [if_neg h7] at e3
    exact ⟨g, e1, e2, by rw [if_neg (show ¬ updB S 3 7 = true from h7)]; exact e3.ext hx⟩
theorem PairF.new0 (h : PairF w0 V0 V1 O0 O1 T0 T1 z0 z1 S l0 c0 l1 c1 x0 x1 W) (F0 : Firm T0 T1 O0) (F1 : Firm T0 T1 O1) (hn : S 4 = false) :
    PairG w0 V0 V1 O0 O1 T0 T1 z0 z1 (updB S 4) [l0, c0, l1, c1, .pointer (some ⟨W.heap.size, 0, none⟩), x1] (W.alloc (.cells z0.toArray T0)) := by
  have hx := Ext.alloc W (.cells z0.toArray T0)
  have h6 : ¬ S 6 = true := fun e => by have := h.s6 e; rw [hn] at this; cases this
  refine PairF.g ⟨h.ext.trans hx, h.a0, fun e => F0.ext hx (h.a1 e), h.a2, fun e => F1.ext hx (h.a3 e), fun _ => ⟨_, rfl, h.ext.size, ?_⟩, fun e => ?_, fun _ e he => ?_, h.d6, h.d7, fun _ => rfl, h.s7⟩
  · rw [if_neg (show ¬ updB S 4 6 = true from h6)]
    exact RowAt.new _ _ _
  · obtain ⟨g, e1, e2, e3⟩ := h.a5 e
    exact ⟨g, e1, e2, e3.ext hx⟩
  · obtain ⟨g, e1, e2, e3⟩ := h.a5 e
    rw [e1] at he
    have := e3.lt
    simp at he
    try omega
theorem PairF.new1 (h : PairF w0 V0 V1 O0 O1 T0 T1 z0 z1 S l0 c0 l1 c1 x0 x1 W) (F0 : Firm T0 T1 O0) (F1 : Firm T0 T1 O1) (hn : S 5 = false) :
    PairG w0 V0 V1 O0 O1 T0 T1 z0 z1 (updB S 5) [l0, c0, l1, c1, x0, .pointer (some ⟨W.heap.size, 0, none⟩)] (W.alloc (.cells z1.toArray T1)) := by
  have hx := Ext.alloc W (.cells z1.toArray T1)
  have h7 : ¬ S 7 = true := fun e => by have := h.s7 e; rw [hn] at this; cases this
  refine PairF.g ⟨h.ext.trans hx, h.a0, fun e => F0.ext hx (h.a1 e), h.a2, fun e => F1.ext hx (h.a3 e), fun e => ?_, fun _ => ⟨_, rfl, h.ext.size, ?_⟩, fun e _ he => ?_, h.d6, h.d7, h.s6, fun _ => rfl⟩
  · obtain ⟨g, e1, e2, e3⟩ := h.a4 e
    exact ⟨g, e1, e2, e3.ext hx⟩
  · rw [if_neg (show ¬ updB S 5 7 = true from h7)]
    exact RowAt.new _ _ _
  · obtain ⟨g, e1, e2, e3⟩ := h.a4 e
    rw [e1] at he
    have := e3.lt
    simp at he
    try omega
theorem PairF.store0 (h : PairF w0 V0 V1 O0 O1 T0 T1 z0 z1 S l0 c0 l1 c1 x0 x1 W) (F0 : Firm T0 T1 O0) (F1 : Firm T0 T1 O1) (h1 : S 1 = true) (hn : S 6 = false) {g : Nat} (hx : x0 = .pointer (some ⟨g, 0, none⟩)) (h4 : S 4 = true) (hz : z0.length = c0.cells.toList.length) :
    PairG w0 V0 V1 O0 O1 T0 T1 z0 z1 (updB S 6) [l0, c0, l1, c1, x0, x1] (setC W g 0 c0.cells.toList) := by
  obtain ⟨g', e1, e2, e3⟩ := h.a4 h4
  rw [hx] at e1
  cases e1
  rw [if_neg (by rw [hn]; simp)] at e3
  refine PairF.g ⟨below_setC e2 _ 0 h.ext, h.a0, fun e => F0.set e3 (.inl rfl) (h.a1 e), h.a2, fun e => F1.set e3 (.inl rfl) (h.a3 e), fun _ => ⟨g, hx, e2, ?_⟩, fun e => ?_, h.ne, fun _ => h1, h.d7, fun _ => h4, h.s7⟩
  · rw [if_pos (updB_at S 6)]
    exact row_setC c0.cells.toList [] z0 e3 hz
  · obtain ⟨g2, f1, f2, f3⟩ := h.a5 e
    refine ⟨g2, f1, f2, row_setC_ne (fun he => ?_) _ _ f3⟩
    exact h.ne h4 e (by rw [hx, f1, he])
theorem PairF.store1 (h : PairF w0 V0 V1 O0 O1 T0 T1 z0 z1 S l0 c0 l1 c1 x0 x1 W) (F0 : Firm T0 T1 O0) (F1 : Firm T0 T1 O1) (h1 : S 3 = true) (hn : S 7 = false) {g : Nat} (hx : x1 = .pointer (some ⟨g, 0, none⟩)) (h4 : S 5 = true) (hz : z1.length = c1.cells.toList.length) :
    PairG w0 V0 V1 O0 O1 T0 T1 z0 z1 (updB S 7) [l0, c0, l1, c1, x0, x1] (setC W g 0 c1.cells.toList) := by
  obtain ⟨g', e1, e2, e3⟩ := h.a5 h4
  rw [hx] at e1
  cases e1
  rw [if_neg (by rw [hn]; simp)] at e3
  refine PairF.g ⟨below_setC e2 _ 0 h.ext, h.a0, fun e => F0.set e3 (.inr rfl) (h.a1 e), h.a2, fun e => F1.set e3 (.inr rfl) (h.a3 e), fun e => ?_, fun _ => ⟨g, hx, e2, ?_⟩, h.ne, h.d6, fun _ => h1, h.s6, fun _ => h4⟩
  · obtain ⟨g2, f1, f2, f3⟩ := h.a4 e
    refine ⟨g2, f1, f2, row_setC_ne (fun he => ?_) _ _ f3⟩
    exact h.ne e h4 (by rw [hx, f1, he])
  · rw [if_pos (updB_at S 7)]
    exact row_setC c1.cells.toList [] z1 e3 hz
end
theorem puts_self : ∀ (a : Act) (slots : List Tmp), puts a slots (slots.map fun s => a.tmps.getD s undef) = a
  | _, [] => rfl
  | a, s :: ss => by
    have h : a.put (some s) (a.tmps.getD s undef) = a := by
      obtain ⟨t, d⟩ := a
      show (⟨t.setIfInBounds s (t.getD s undef), d⟩ : Act) = ⟨t, d⟩
      congr 1
      apply Array.ext_getElem?
      intro i
      rw [Array.getElem?_setIfInBounds]
      split
      · rename_i e
        subst e
        split
        · rename_i hl
          simp [Array.getD, hl]
        · rename_i hl
          rw [Array.getElem?_eq_none (by omega)]
      · rfl
    show puts (a.put (some s) (a.tmps.getD s undef)) ss (ss.map fun s => a.tmps.getD s undef) = a
    rw [h]
    exact puts_self a ss
end Go.Proofs.YthoneahamnmjlaaGreatDoor

/- A region that draws its order, while blocks of a list may be written; whole rows are loaded and stored in one step. No program in sight. -/
namespace Go.Proofs.YthoneahamnmjlaaGreatDoor
set_option maxRecDepth 100000
set_option maxHeartbeats 2000000
set_option linter.unusedSimpArgs false
open Go.RowKit Go.Sort
set_option linter.unusedVariables false

/-- Only blocks of a list have changed, and there may be new ones. -/
structure Grows (X : List Nat) (w w' : World) : Prop where
  os : w'.os = w.os
  tape : w'.tape = w.tape
  output : w'.output = w.output
  size : w.heap.size ≤ w'.heap.size
  block : ∀ i, i < w.heap.size → i ∉ X → w'.heap[i]? = w.heap[i]?
theorem Grows.refl (X : List Nat) (w : World) : Grows X w w := ⟨rfl, rfl, rfl, Nat.le_refl _, fun _ _ _ => rfl⟩
theorem Grows.trans {X : List Nat} {a b c : World} (h : Grows X a b) (k : Grows X b c) : Grows X a c :=
  ⟨k.os.trans h.os, k.tape.trans h.tape, k.output.trans h.output, Nat.le_trans h.size k.size, fun i hi hn => (k.block i (Nat.lt_of_lt_of_le hi h.size) hn).trans (h.block i hi hn)⟩
theorem Grows.ext {X : List Nat} {w w' : World} (h : Ext w w') : Grows X w w' := ⟨h.os, h.tape, h.output, h.size, fun i hi _ => h.block i hi⟩
theorem Grows.one {X : List Nat} {w w' : World} {g : Nat} (h : w.grownBy w' (some g)) (hg : g ∈ X) : Grows X w w' := ⟨h.os, h.tape, h.output, h.size, fun i hi hn => h.block i hi (fun e => hn (by cases e; exact hg))⟩
theorem Grows.set {X : List Nat} {w : World} {g : Nat} (hg : g ∈ X) (i : Nat) (v : Value) : Grows X w (w.setCell ⟨g, i, none⟩ v) := Grows.one (grown_set w g i v) hg
theorem setRow_grown (w : World) (g : Nat) (cs : Array Value) : w.grownBy (w.setRow g cs) (some g) :=
  ⟨rfl, rfl, rfl, by simp [World.setRow], fun i hi hn => setRow_other w g i cs (fun e => hn (by rw [e]))⟩
theorem Grows.setRow {X : List Nat} {w : World} {g : Nat} (hg : g ∈ X) (cs : Array Value) : Grows X w (w.setRow g cs) := Grows.one (setRow_grown w g cs) hg
theorem RowAt.setRow {w : World} {g : Nat} {t : TypeId} {old : List Value} (h : RowAt w g t old) (xs : List Value) : RowAt (w.setRow g xs.toArray) g t xs := setRow_heap _ _ _ _ _ _ h
theorem RowAt.range {w : World} {g : Nat} {t : TypeId} {pre cs post : List Value} (h : RowAt w g t (pre ++ cs ++ post)) : w.rangeAt g pre.length cs := fun j v hv => by
  refine h.cell ?_
  rw [List.append_assoc, List.getElem?_append_right (by omega), Nat.add_sub_cancel_left, List.getElem?_append_left (List.getElem?_eq_some_iff.1 hv).1]
  exact hv
theorem RowAt.whole {w : World} {g : Nat} {t : TypeId} {cs : List Value} (h : RowAt w g t cs) : w.rangeAt g 0 cs := fun j v hv => h.cell (by rw [Nat.zero_add]; exact hv)
theorem Grows.range {X : List Nat} {w w' : World} {b o : Nat} {cs : List Value} (h : Grows X w w') (hc : w.rangeAt b o cs) (hn : b ∉ X) : w'.rangeAt b o cs := fun j v hv => by
  have h1 := hc j v hv
  exact (World.cell?_of_block (w := w) (h.block b (World.block_lt_of_cell? w _ h1) hn)).trans h1
theorem grows_some {X : List Nat} {w w' : World} (hx : Grows X w w') (p : Addr) (hne : p.block ∉ X) (h : (w.cell? p).isSome = true) : w'.cell? p = w.cell? p := by
  obtain ⟨v, hv⟩ := Option.isSome_iff_exists.1 h
  exact World.cell?_of_block (w := w) (hx.block p.block (World.block_lt_of_cell? w p hv) hne)
instance growsRel (X : List Nat) : Rel (Grows X) := ⟨Grows.refl X, fun h k => h.trans k⟩
structure GroX (X : List Nat) (P : Program) (ops : Array Oper) (Q : Exit → Act → World → Prop) (ks : Nat → Gro) (l : List Nat) (a : Act) (w : World) : Prop where
  out : groL (Grows X) P ops Q ks l a w
section
variable {X : List Nat} {P : Program} {ops : Array Oper} {Q : Exit → Act → World → Prop} {ks : Nat → Gro} {a : Act} {w : World} {i : Nat} {r : List Nat} {o : Oper}
theorem groX_nil (h : Q .normal a w) : GroX X P ops Q ks [] a w := ⟨h⟩
theorem groX_pure (ho : ops[i]? = some o) (hk : ks i = .pure)
    (h : ∀ K : Act → Prop, (∀ a, GroX X P ops Q ks r a w → K a) → if Region.wanted o (yielded ops a.tmps) = true then ∃ v, (∀ w', (execOp a.eval o).run P w' = .ok (.value v) w') ∧ K (a.put o.dst v) else K (a.put o.dst undef)) : GroX X P ops Q ks (i :: r) a w :=
  ⟨groL0_pure ho hk fun K hK => h K fun a h => hK a h.out⟩
theorem groX_read (ho : ops[i]? = some o) (hk : ks i = .read)
    (h : ∀ (K : Act → Prop) (S : Value → Prop), (∀ v, Stays (Grows X) P o a w v → S v) → (∀ a, GroX X P ops Q ks r a w → K a) → if Region.wanted o (yielded ops a.tmps) = true then ∃ v, o.quietAt P a (fun x => x = w) w v ∧ S v ∧ K (a.put o.dst v) else K (a.put o.dst undef)) : GroX X P ops Q ks (i :: r) a w :=
  ⟨groL0_read ho hk fun K S hS hK => h K S hS fun a h => hK a h.out⟩
theorem groX_grow (ho : ops[i]? = some o) (hk : ks i = .grow)
    (h : ∀ K : Act → World → Prop, (∀ a w', Grows X w w' ∧ GroX X P ops Q ks r a w' → K a w') → if Region.wanted o (yielded ops a.tmps) = true then o.wp P a w K Q else K (a.put o.dst undef) w) : GroX X P ops Q ks (i :: r) a w :=
  ⟨groL0_grow ho hk fun K hK => h K fun a w' h => hK a w' ⟨h.1, h.2.out⟩⟩
theorem wanted_none (hgd : o.guard = none) (ops : Array Oper) (tmps : Array Value) : Region.wanted o (yielded ops tmps) = true := by simp [Region.wanted, hgd]
/-- A row is loaded. -/
theorem groX_load (ho : ops[i]? = some o) (hk : ks i = .read) (hgd : o.guard = none) (ty : TypeId) (x : Operand) (hop : o.op = .load ty x) (b off : Nat) (hx : a.eval x = .pointer (some ⟨b, off, none⟩)) (cs : List Value) (d : TypeDesc) (hc : w.rangeAt b off cs) (hb : b ∉ X)
    (hu : P.underlying ty = some d) (hd : d.isRow = true) (hi : (P.info? ty).map (·.size) = some cs.length)
    (h : GroX X P ops Q ks r (a.put o.dst (.agg cs.toArray)) w) : GroX X P ops Q ks (i :: r) a w := by
  refine groX_read ho hk fun K S hS hK => ?_
  rw [if_pos (wanted_none hgd _ _)]
  have hq : ∀ w', w'.rangeAt b off cs → o.quietAt P a (fun x => x = w') w' (.agg cs.toArray) := fun w' hc' => by
    unfold Oper.quietAt execOp
    simp only [hop, hx, Instr.loadAt, Instr.sureAddr, Sem.run_bind, Sem.run_pure, Result.andThen_ok, run_loadVar_mid w' b off ty cs d hc' hu hd hi]
    simp [Oper.quietUpon]
  exact ⟨_, hq w hc, hS _ (fun w' hg => hq w' (hg.range hc hb)), hK _ h⟩
/-- A row is stored. -/
theorem groX_store (ho : ops[i]? = some o) (hk : ks i = .grow) (hgd : o.guard = none) (ty : TypeId) (x y : Operand) (hop : o.op = .store ty x y) (g : Nat) (cs : List Value) (hx : a.eval x = .pointer (some ⟨g, 0, none⟩)) (hy : a.eval y = .agg cs.toArray)
    {t : TypeId} {old : List Value} (hg : RowAt w g t old) (hX : g ∈ X) (hi : (P.info? ty).map (·.size) = some cs.length) (hold : old.length = cs.length) (h1 : ∀ v ∈ cs, v.oneCell' = true)
    (h : GroX X P ops Q ks r (a.put o.dst undef) (w.setRow g cs.toArray)) : GroX X P ops Q ks (i :: r) a w := by
  refine groX_grow ho hk fun K hK => ?_
  rw [if_pos (wanted_none hgd _ _)]
  exact wp_store_row ty x y hop g cs.toArray hx hy t old.toArray hg (by simpa using hi) (by simpa using hold) (all_oneCell_toArray h1) (hK _ _ ⟨Grows.setRow hX _, h⟩)
theorem wp_region_grox (X : List Nat) {id : Nat} {l : List Oper} (ks : Nat → Gro) (ord : List Nat) (hm : P.follows .mixedOrders = true) (hsel : Region.noSelect l.toArray = true) (hn : ord.length = l.length)
    (hB : groText .any l.toArray ks ord (Array.replicate l.toArray.size false) = true) (hQ : ∀ c a w d v, Q (.panic c) (a.put (some d) v) w → Q (.panic c) a w)
    (h : GroX X P l.toArray Q ks ord a w.drew) : (Code.region id l.toArray true).wp P Q a w := wp_region_gro0 ks ord hm hsel hn hB hQ h.out
end
/-- Results that begin with a cell of a whole row. -/
theorem load_whole {P : Program} {w : World} {g : Nat} {t ty : TypeId} {xs : List Value} {d : TypeDesc} (h : RowAt w g t xs) (hu : P.underlying ty = some d) (hd : d.isRow = true) (hi : (P.info? ty).map (·.size) = some xs.length) : (loadVar ty ⟨g, 0, none⟩).run P w = .ok (.agg xs.toArray) w :=
  run_loadVar_mid w g 0 ty xs d h.whole hu hd hi
theorem results_row2 {P : Program} {fn : Func} {p u v : Tmp} {ty : TypeId} (h : fn.results = #[.cell p ty, .tmp u, .tmp v]) {tmps : Array Value} {w : World} {g : Nat} {t : TypeId} {xs : List Value} {d : TypeDesc}
    (hp : tmps.getD p undef = .pointer (some ⟨g, 0, none⟩)) (hg : RowAt w g t xs) (hu : P.underlying ty = some d) (hd : d.isRow = true) (hi : (P.info? ty).map (·.size) = some xs.length) :
    (results fn tmps).run P w = .ok (.tuple #[.agg xs.toArray, tmps.getD u undef, tmps.getD v undef]) w := by
  have hp' : tmps[p]?.getD undef = .pointer (some ⟨g, 0, none⟩) := by simpa using hp
  simp [results, h, hp', asAddr, load_whole hg hu hd hi]
theorem results_row1 {P : Program} {fn : Func} {p u : Tmp} {ty : TypeId} (h : fn.results = #[.cell p ty, .tmp u]) {tmps : Array Value} {w : World} {g : Nat} {t : TypeId} {xs : List Value} {d : TypeDesc}
    (hp : tmps.getD p undef = .pointer (some ⟨g, 0, none⟩)) (hg : RowAt w g t xs) (hu : P.underlying ty = some d) (hd : d.isRow = true) (hi : (P.info? ty).map (·.size) = some xs.length) :
    (results fn tmps).run P w = .ok (.tuple #[.agg xs.toArray, tmps.getD u undef]) w := by
  have hp' : tmps[p]?.getD undef = .pointer (some ⟨g, 0, none⟩) := by simpa using hp
  simp [results, h, hp', asAddr, load_whole hg hu hd hi]
theorem results_row0 {P : Program} {fn : Func} {p : Tmp} {ty : TypeId} (h : fn.results = #[.cell p ty]) {tmps : Array Value} {w : World} {g : Nat} {t : TypeId} {xs : List Value} {d : TypeDesc}
    (hp : tmps.getD p undef = .pointer (some ⟨g, 0, none⟩)) (hg : RowAt w g t xs) (hu : P.underlying ty = some d) (hd : d.isRow = true) (hi : (P.info? ty).map (·.size) = some xs.length) :
    (results fn tmps).run P w = .ok (.agg xs.toArray) w := by
  have hp' : tmps[p]?.getD undef = .pointer (some ⟨g, 0, none⟩) := by simpa using hp
  simp [results, h, hp', asAddr, load_whole hg hu hd hi]
/-- In a plain region. -/
theorem plain_load {P : Program} {Q : Exit → Act → World → Prop} {ops : Array Oper} {rest : List Oper} {o : Oper} {a : Act} {w : World} (hgd : o.guard = none) (ty : TypeId) (x : Operand) (ho : o.op = .load ty x) (g : Nat) (hx : a.eval x = .pointer (some ⟨g, 0, none⟩)) {t : TypeId} (cs : List Value) (d : TypeDesc) (hg : RowAt w g t cs)
    (hu : P.underlying ty = some d) (hd : d.isRow = true) (hi : (P.info? ty).map (·.size) = some cs.length)
    (h : wpList P ops Q rest (a.put o.dst (.agg cs.toArray)) w) : wpList P ops Q (o :: rest) a w :=
  wpList_load_mid hgd ty x ho g 0 hx cs d hg.whole hu hd hi h
theorem plain_store {P : Program} {Q : Exit → Act → World → Prop} {ops : Array Oper} {rest : List Oper} {o : Oper} {a : Act} {w : World} (hgd : o.guard = none) (ty : TypeId) (x y : Operand) (ho : o.op = .store ty x y) (g : Nat) (cs : List Value) (hx : a.eval x = .pointer (some ⟨g, 0, none⟩)) (hy : a.eval y = .agg cs.toArray)
    {t : TypeId} {old : List Value} (hg : RowAt w g t old) (hi : (P.info? ty).map (·.size) = some cs.length) (hold : old.length = cs.length) (h1 : ∀ v ∈ cs, v.oneCell' = true)
    (h : wpList P ops Q rest (a.put o.dst undef) (w.setRow g cs.toArray)) : wpList P ops Q (o :: rest) a w :=
  wpList_store_row hgd ty x y ho g cs.toArray hx hy t old.toArray hg (by simpa using hi) (by simpa using hold) (all_oneCell_toArray h1) h
end Go.Proofs.YthoneahamnmjlaaGreatDoor

/- A range over a function whose iterator turns blocks of its own; a loop of such kind may stand within another's iterator. No program in sight. -/
namespace Go.Proofs.YthoneahamnmjlaaGreatDoor
set_option maxRecDepth 100000
set_option maxHeartbeats 2000000
set_option linter.unusedVariables false
set_option linter.unusedSimpArgs false
open Go.RowKit Go.Sort

/-- What an iterator may do between the rounds: make blocks; turn what is no row from B on; turn rows of type T from X on. -/
def Turn (T : TypeId) (X B : Nat) (W W' : World) : Prop := ∃ row, W.grownBy W' row ∧ ∀ r, row = some r → ∃ o, W.heap[r]? = some o ∧ (B ≤ r ∧ o.isCells = false ∨ X ≤ r ∧ ∃ cs fr, o = .cells cs T fr)
theorem Turn.ext {T : TypeId} {X B : Nat} {W W' : World} (h : Ext W W') : Turn T X B W W' := ⟨none, grown_ext h, fun r e => by cases e⟩
theorem Turn.mono {T : TypeId} {X B X' B' : Nat} {W W' : World} (h : Turn T X B W W') (hX : X' ≤ X) (hB : B' ≤ B) : Turn T X' B' W W' := by
  obtain ⟨row, hg, hr⟩ := h
  refine ⟨row, hg, fun r e => ?_⟩
  obtain ⟨o, ho, h | h⟩ := hr r e
  · exact ⟨o, ho, .inl ⟨by omega, h.2⟩⟩
  · exact ⟨o, ho, .inr ⟨by omega, h.2⟩⟩
theorem Turn.keep {T : TypeId} {X B : Nat} {W W' : World} (h : Turn T X B W W') {l : Nat} {o : Obj} (hl : W.heap[l]? = some o) (ho : o.isCells = false) (hB : l < B) : W'.heap[l]? = some o := by
  obtain ⟨row, hg, hr⟩ := h
  refine (hg.block l (Array.getElem?_eq_some_iff.1 hl).1 (fun e => ?_)).trans hl
  obtain ⟨o', ho', h | h⟩ := hr l e.symm
  · omega
  · rw [hl] at ho'; cases ho'; obtain ⟨_, cs, fr, rfl⟩ := h; cases ho
/-- What abides such turns. -/
def PStab (T : TypeId) (X B : Nat) (I : World → Prop) : Prop := ∀ W W', Turn T X B W W' → I W → I W'
theorem PStab.stab {T : TypeId} {X B : Nat} {I : World → Prop} (h : PStab T X B I) : Stab B I := fun W W' row hi hg hr =>
  h W W' ⟨row, hg, fun r e => by obtain ⟨hB, o, ho, hc⟩ := hr r e; exact ⟨o, ho, .inl ⟨hB, hc⟩⟩⟩ hi
theorem PStab.pure {T : TypeId} {X B : Nat} (p : Prop) : PStab T X B (fun _ => p) := fun _ _ _ h => h
theorem PStab.ex {T : TypeId} {X B : Nat} {α : Sort _} {I : α → World → Prop} (h : ∀ x, PStab T X B (I x)) : PStab T X B (fun W => ∃ x, I x W) := fun W W' ht ⟨x, hi⟩ => ⟨x, h x W W' ht hi⟩
theorem PStab.row {T : TypeId} {X B : Nat} (g : Nat) (t : TypeId) (xs : List Value) (h : t ≠ T ∨ g < X) : PStab T X B (fun W => RowAt W g t xs) := fun W W' ⟨row, hg, hr⟩ hi => hi.kept hg (fun e => by
  obtain ⟨o, ho, h' | h'⟩ := hr g e
  · rw [show W.heap[g]? = _ from hi] at ho; cases ho; exact absurd h'.2 (by simp [Obj.isCells])
  · rw [show W.heap[g]? = _ from hi] at ho
    obtain ⟨hX, cs, fr, rfl⟩ := h'
    cases ho
    rcases h with h | h
    · exact h rfl
    · omega)
theorem PStab.below {T : TypeId} {X B : Nat} (n : Nat) (w0 : World) (hX : n ≤ X) (hB : n ≤ B) (hw : n ≤ w0.heap.size) : PStab T X B (fun W => Below n w0 W) := fun W W' ⟨row, hg, hr⟩ hb =>
  hb.grown hg (Nat.le_trans hw hb.size) (fun k e => by obtain ⟨o, _, h | h⟩ := hr k e <;> omega)
theorem PStab.own {T : TypeId} {X B : Nat} (base n size : Nat) (e : TypeId) (v : Value) (xs : List Value) (he : e ≠ T) : PStab T X B (fun W => W.ownsRow base e size v n xs) := fun W W' ⟨row, hg, hr⟩ h => by
  refine ⟨h.1, ?_⟩
  rcases h.2 with hn | ⟨g, cap, cur, rfl, hbg, hgg, rest⟩
  · exact .inl hn
  · refine .inr ⟨g, cap, cur, rfl, hbg, ?_, rest⟩
    refine (hg.block g (Array.getElem?_eq_some_iff.1 hgg).1 (fun e' => ?_)).trans hgg
    obtain ⟨o, ho, h' | h'⟩ := hr g e'.symm
    · rw [hgg] at ho; cases ho; exact absurd h'.2 (by simp [Obj.isCells])
    · rw [hgg] at ho; obtain ⟨_, cs, fr, rfl⟩ := h'; cases ho; exact he rfl
/-- What the rounds leave of what the iterator holds: rows of some types, from X on. -/
structure KeepsC (Kt : TypeId → Prop) (X : Nat) (W W' : World) : Prop where
  size : W.heap.size ≤ W'.heap.size
  row : ∀ (k : Nat) (t : TypeId) (xs : List Value), X ≤ k → Kt t → RowAt W k t xs → RowAt W' k t xs
theorem KeepsC.refl (Kt : TypeId → Prop) (X : Nat) (W : World) : KeepsC Kt X W W := ⟨Nat.le_refl _, fun _ _ _ _ _ h => h⟩
theorem KeepsC.trans {Kt : TypeId → Prop} {X : Nat} {A B C : World} (h : KeepsC Kt X A B) (h' : KeepsC Kt X B C) : KeepsC Kt X A C := ⟨Nat.le_trans h.size h'.size, fun k t xs hk ht hr => h'.row k t xs hk ht (h.row k t xs hk ht hr)⟩
theorem KeepsC.ext {Kt : TypeId → Prop} {X : Nat} {W W' : World} (h : Ext W W') : KeepsC Kt X W W' := ⟨h.size, fun _ _ _ _ _ hr => hr.ext h⟩
theorem KeepsC.put {Kt : TypeId → Prop} {X : Nat} {W : World} {l : Nat} {o : Obj} (hl : W.heap[l]? = some o) (ho : o.isCells = false) (o' : Obj) : KeepsC Kt X W (W.putObj l o') :=
  ⟨(grownBy_putObj' W l o').size, fun k t xs _ _ hr => hr.kept (grownBy_putObj' W l o') (fun e => by
    have e := Option.some.inj e; subst e; rw [show W.heap[l]? = _ from hr] at hl; cases hl; cases ho)⟩
/-- A row elsewhere is written, or one of a type that need not be kept. -/
theorem KeepsC.grown {Kt : TypeId → Prop} {X : Nat} {W W' : World} {row : Option Nat} (hg : W.grownBy W' row) (h : ∀ r, row = some r → r < X ∨ ∃ o : Obj, W.heap[r]? = some o ∧ ∀ cs t fr, o = .cells cs t fr → ¬ Kt t) : KeepsC Kt X W W' :=
  ⟨hg.size, fun k t xs hk ht hr => hr.kept hg (fun e => by
    rcases h k e with h | ⟨o, ho, h⟩
    · omega
    · rw [show W.heap[k]? = _ from hr] at ho; cases ho; exact h _ _ _ rfl ht)⟩

/-- An iterator's contract. -/
def IterP (P : Program) (gf : Nat) (lb : Array Value) (Inv : World → Prop) (T : TypeId) (Kt : TypeId → Prop) (X : Nat) (N : Nat) (Enc : Nat → World → Array Value → Prop) : Prop :=
  ∀ (L : Nat) (W : World) (J : Nat → World → Prop) (Js : World → Prop), X ≤ W.heap.size → Inv W →
    (∀ k, PStab T X W.heap.size (J k)) → PStab T X W.heap.size Js →
    (∀ k args W₁, k < N → J k W₁ → Enc k W₁ args → YieldAt Fence.wide 0 P L args W₁ fun e W' => KeepsFrom W.heap.size W₁ W' ∧ KeepsC Kt X W₁ W' ∧ ((e = .returned (.bool true) ∧ J (k + 1) W') ∨ (e = .returned (.bool false) ∧ Js W'))) →
    J 0 W →
    CallsIn Fence.wide 0 P gf (#[.func (.yield L) #[] #[]] ++ lb) W fun e W' => (∃ v, e = .returned v) ∧ (J N W' ∨ Js W')

/-- What a round's body owes. -/
def overP (B : Nat) (Kt : TypeId → Prop) (X : Nat) (I : Nat → World → Prop) (Ix : Code → World → Prop) (k : Nat) (W : World) : Exit → Act → World → Prop := fun e _ W' =>
  KeepsFrom B W W' ∧ KeepsC Kt X W W' ∧ match e with
  | .normal => I (k + 1) W'
  | .ret => Ix .ret W'
  | .exit id => Ix (.exit id) W'
  | .goto t => Ix (.goto t) W'
  | _ => False

theorem wp_overP {P : Program} {g : Operand} {ps : Array Tmp} {assign body : Code} {Q : Exit → Act → World → Prop} {a : Act} {w : World} {gf : Nat} {lb : Array Value} {Inv : World → Prop} {T : TypeId} {Kt : TypeId → Prop} {X : Nat} {N : Nat} {Enc : Nat → World → Array Value → Prop}
    (hg : a.eval g = .func (.func gf) #[] lb) (eg : ∀ args w, (callFunc gf args).run P w = .ok (.enter gf args) w) (hit : IterP P gf lb Inv T Kt X N Enc) (hX : X ≤ w.heap.size)
    (hsz : ∀ k W args, Enc k W args → args.size = ps.size) (hEnc : ∀ k args, Stab w.heap.size (fun W => Enc k W args))
    (I : Nat → World → Prop) (Ix : Code → World → Prop) (hI : ∀ k, PStab T X w.heap.size (I k)) (hIx : ∀ c, PStab T X w.heap.size (Ix c))
    (hInv : Stab w.heap.size Inv) (hb : Inv w) (h0 : I 0 w)
    (hround : ∀ k args W L, k < N → w.heap.size < L → I k W → Enc k W args →
      assign.wpIn (Fence.wide.inRound L) 0 P (Exit.then (fun a₁ W₁ => KeepsFrom w.heap.size W W₁ ∧ KeepsC Kt X W W₁ ∧ I k W₁ ∧ Enc k W₁ args ∧ ∀ W₂, (∀ J : World → Prop, Stab w.heap.size J → J W₁ → J W₂) → I k W₂ → Enc k W₂ args → body.wpIn (Fence.wide.inRound L) 0 P (overP w.heap.size Kt X I Ix k W₂) a₁ W₂) (fun _ _ _ => False))
        { tmps := (ps.zip args).foldl (fun tmps (t, a) => tmps.setIfInBounds t a) a.tmps, defers := [] } W)
    (hdone : ∀ D W, w.heap.size ≤ D → I N W → W.heap[D]? = some (.deferred (some [])) → Q .normal { a with defers := { target := .collected D, args := #[] } :: a.defers } W)
    (hstop : ∀ D c W, w.heap.size ≤ D → Ix c W → W.heap[D]? = some (.deferred (some [])) → c.wp P Q { a with defers := { target := .collected D, args := #[] } :: a.defers } W) :
    (Code.rangeFunc g ps assign body).wp P Q a w := by
  refine (wpIn_wide (n := 0)).1 ?_
  refine wp_range hg eg w.heap.size (w.heap.size + 1) rfl rfl _ rfl ?_
  intro fn W hW
  have hr0 : ∀ st pe, ({ recOf fn a ps assign body w.heap.size .ready none with state := st, pending := pe } : Loop) = recOf fn a ps assign body w.heap.size st pe := fun _ _ => rfl
  generalize hr : recOf fn a ps assign body w.heap.size .ready none = r at hW
  have hrd : r.state = .ready ∧ r.pending = none := by subst hr; exact ⟨rfl, rfl⟩
  have hL0 : W.heap[w.heap.size + 1]? = some (.loop r) := by
    subst hW
    have := World.alloc_heap_new (w.alloc (.deferred (some []))) (.loop r)
    rwa [World.size_alloc] at this
  have hD0 : W.heap[w.heap.size]? = some (.deferred (some [])) := by
    subst hW
    rw [Below.heap_alloc _ _ _ (by simp)]
    exact World.alloc_heap_new w _
  have hI0 : I 0 W := by
    subst hW
    exact (hI 0).stab.ext ((hI 0).stab.ext h0 (Ext.alloc _ _)) (Ext.alloc _ _)
  have hWs : W.heap.size = w.heap.size + 1 + 1 := by subst hW; simp
  have hx := hit (w.heap.size + 1) W (fun k W => W.heap[w.heap.size + 1]? = some (.loop r) ∧ W.heap[w.heap.size]? = some (.deferred (some [])) ∧ I k W)
    (fun W => ∃ c, W.heap[w.heap.size + 1]? = some (.loop { r with state := .done, pending := some c }) ∧ W.heap[w.heap.size]? = some (.deferred (some [])) ∧ Ix c W)
    (by omega)
    (by subst hW; exact hInv.ext (hInv.ext hb (Ext.alloc _ _)) (Ext.alloc _ _))
    (fun k W₁ W₂ ht ⟨h1, h2, h3⟩ => ⟨ht.keep h1 rfl (by omega), ht.keep h2 rfl (by omega), hI k W₁ W₂ (ht.mono (Nat.le_refl _) (by omega)) h3⟩)
    (fun W₁ W₂ ht ⟨c, h1, h2, h3⟩ => ⟨c, ht.keep h1 rfl (by omega), ht.keep h2 rfl (by omega), hIx c W₁ W₂ (ht.mono (Nat.le_refl _) (by omega)) h3⟩)
    ?_ ⟨hL0, hD0, hI0⟩
  · refine CallsIn.mono (n := 0) hx ?_
    rintro e W' ⟨⟨v, rfl⟩, h | h⟩
    · obtain ⟨h1, h2, h3⟩ := h
      refine ⟨v, rfl, r, h1, by rw [hrd.1]; decide, fun r' => ?_⟩
      rw [hrd.2]
      exact hdone _ _ (Nat.le_refl _) ((hI N).stab.put h3 h1 rfl (by omega) _) ((World.putObj_heap_other (by omega)).trans h2)
    · obtain ⟨c, h1, h2, h3⟩ := h
      refine ⟨v, rfl, _, h1, by simp, fun r' => ?_⟩
      simp only []
      exact wpIn_wide.2 (hstop _ c _ (Nat.le_refl _) ((hIx c).stab.put h3 h1 rfl (by omega) _) ((World.putObj_heap_other (by omega)).trans h2))
  · rintro k args W1 hk ⟨h1, h2, h3⟩ he
    refine yield_rec hr h1 (hsz k W1 args he) ?_
    refine wpIn_mono (hround k args W1 (w.heap.size + 1) hk (by omega) h3 he) ?_
    rintro ex a₁ W₁ hq
    cases ex with
    | normal =>
      obtain ⟨q1, q1c, q2, q2', q3⟩ := hq
      have h1' := q1.same _ _ (by omega) h1 rfl
      have h2' := q1.same _ _ (by omega) h2 rfl
      refine ⟨h1', ?_⟩
      have hput : ∀ o : Obj, KeepsFrom W.heap.size W₁ (W₁.putObj (w.heap.size + 1) o) := fun o => ⟨(grownBy_putObj' W₁ _ o).size, fun k' o' hk' h0' ho' => (World.putObj_heap_other (by omega)).trans h0'⟩
      refine wpIn_mono (q3 (W₁.putObj (w.heap.size + 1) (.loop { r with state := .busy })) (fun J hJ hj => hJ.put hj h1' rfl (by omega) _) ((hI k).stab.put q2 h1' rfl (by omega) _) ((hEnc k args).put q2' h1' rfl (by omega) _)) ?_
      rintro ex a₂ W₂ ⟨hK, hKc, hq⟩
      have h1'' := hK.same _ _ (by omega) (World.putObj_heap_same (Array.getElem?_eq_some_iff.1 h1').1) rfl
      have h2'' := hK.same _ _ (by omega) ((World.putObj_heap_other (by omega)).trans h2') rfl
      have hlt := (Array.getElem?_eq_some_iff.1 h1'').1
      have hput2 : ∀ o : Obj, KeepsFrom W.heap.size W₂ (W₂.putObj (w.heap.size + 1) o) := fun o => ⟨(grownBy_putObj' W₂ _ o).size, fun k' o' hk' h0' ho' => (World.putObj_heap_other (by omega)).trans h0'⟩
      have hkm : ∀ {A B : World}, KeepsFrom w.heap.size A B → KeepsFrom W.heap.size A B := fun h => ⟨h.size, fun k' o' hk' h0' ho' => h.same k' o' (by omega) h0' ho'⟩
      have hAll : ∀ o : Obj, KeepsFrom W.heap.size W1 (W₂.putObj (w.heap.size + 1) o) ∧ KeepsC Kt X W1 (W₂.putObj (w.heap.size + 1) o) := fun o =>
        ⟨(((hkm q1).trans (hput _)).trans (hkm hK)).trans (hput2 o), ((q1c.trans (KeepsC.put h1' rfl _)).trans hKc).trans (KeepsC.put h1'' rfl o)⟩
      refine ⟨h1'', ?_⟩
      cases ex with
      | normal =>
        refine ⟨(hAll _).1, (hAll _).2, .inl ⟨rfl, World.putObj_heap_same hlt |>.trans (by rw [rec_ready hr]), (World.putObj_heap_other (by omega)).trans h2'', (hI (k + 1)).stab.put hq h1'' rfl (by omega) _⟩⟩
      | ret => exact ⟨(hAll _).1, (hAll _).2, .inr ⟨rfl, .ret, World.putObj_heap_same hlt, (World.putObj_heap_other (by omega)).trans h2'', (hIx _).stab.put hq h1'' rfl (by omega) _⟩⟩
      | exit id => exact ⟨(hAll _).1, (hAll _).2, .inr ⟨rfl, .exit id, World.putObj_heap_same hlt, (World.putObj_heap_other (by omega)).trans h2'', (hIx _).stab.put hq h1'' rfl (by omega) _⟩⟩
      | goto t => exact ⟨(hAll _).1, (hAll _).2, .inr ⟨rfl, .goto t, World.putObj_heap_same hlt, (World.putObj_heap_other (by omega)).trans h2'', (hIx _).stab.put hq h1'' rfl (by omega) _⟩⟩
      | panic c => exact hq
      | outgrown => exact hq
    | _ => exact hq
end Go.Proofs.YthoneahamnmjlaaGreatDoor
