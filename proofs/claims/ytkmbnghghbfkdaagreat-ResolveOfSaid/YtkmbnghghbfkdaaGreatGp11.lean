/- The ids of names, the names of ids, and all of a kind. -/
import Derived.Test.YtkmbnghghbfkdaaGreatGp10
import Derived.Test.YtkmbnghghbfkdaaGreatGp07
import Derived.Test.YtkmbnghghbfkdaaGreatGp08
import Derived.Shelf.RegionOpen
import Derived.Test.YtkmbnghghbfkdaaGreatGp03
set_option linter.unusedSimpArgs false
set_option linter.unusedVariables false
set_option maxHeartbeats 2000000
set_option maxRecDepth 100000

namespace Go.Proofs.YtkmbnghghbfkdaaGreat
open Go.RowKit Go.Shelf Go.Sort
attribute [local go_sem] Oper.semAt_some wide_fn wide_depth
theorem dcells_at (vs : Nat → Value × Value) {k : Nat} (h : k < 5) : (dcells vs)[k * 2]? = some (vs k).1 ∧ (dcells vs)[k * 2 + 1]? = some (vs k).2 := by
 have hc : k = 0 ∨ k = 1 ∨ k = 2 ∨ k = 3 ∨ k = 4 := by omega
 rcases hc with rfl | rfl | rfl | rfl | rfl <;> exact ⟨rfl, rfl⟩
theorem dcheck_yes (vs : Nat → Value × Value) (D : Dic) (w : World) (hV : DicV w vs D) (hS : DicS D) (h : DicOK D) : Calls Tryz.prog 41 #[dv vs] w fun e w' => e = .returned (.int .i64 0) ∧ Ext w w' :=
 (dcheck_any vs D w hV hS).mono fun e w' ⟨r, he, _, h2, hx⟩ => ⟨by rw [he, h2.2 h], hx⟩
theorem dcheck_no (vs : Nat → Value × Value) (D : Dic) (w : World) (hV : DicV w vs D) (hS : DicS D) (h : ¬ DicOK D) : Calls Tryz.prog 41 #[dv vs] w fun e w' => e = .returned (.int .i64 160) ∧ Ext w w' :=
 (dcheck_any vs D w hV hS).mono fun e w' ⟨r, he, h1, h2, hx⟩ => ⟨by rw [he]; rcases h1 with rfl | rfl; exact absurd (h2.1 rfl) h; rfl, hx⟩
def idF (D : Dic) (kind : Int) (s : ByteArray) : Int := if 0 ≤ kind ∧ kind < 5 then findF (D kind.toNat).1 s else -1
def idRes (f : Int) : Ending := .returned (.tuple #[.int .i64 (max f 0), .bool (decide (0 ≤ f))])
def nameF (D : Dic) (kind q : Int) : Value := if 0 ≤ kind ∧ kind < 5 then textF (D kind.toNat).1 q else .tuple #[.string ⟨#[]⟩, .int .i64 2]
def namesF (D : Dic) (kind : Int) : List ByteArray := if 0 ≤ kind ∧ kind < 5 then (D kind.toNat).1 else []
set_option maxHeartbeats 1000000 in
theorem id_yes (vs : Nat → Value × Value) (D : Dic) (w : World) (hV : DicV w vs D) (hS : DicS D) (h : DicOK D) (kind : Int) (s : ByteArray) (hs : s.size ≤ 9223372036854775807) :
 Calls Tryz.prog 139 #[dv vs, .int .i64 kind, .string s] w fun e w' => e = idRes (idF D kind s) ∧ Ext w w' := by
 have hc := fun w' (hx : Ext w w') => dcheck_yes vs D w' (hV.ext hx) hS h
 have HC := Lib.hid hc
 have HV := Lib.hid hV
 have HS := Lib.hid hS
 have HK := Lib.hid h
 have hrow := RowAt.new w 28 (dcells vs)
 have HR := Lib.hid hrow
 clear hc hV hS h hrow
 unfold dv dcells at *
 go_enter Tryz.func139, Tryz.ntmps139
 go_wp2_with fail
 refine (HC.out _ (Ext.alloc _ _)).mono ?_
 rintro e w1 ⟨rfl, hx1⟩
 by_cases hk : 0 ≤ kind ∧ kind < 5
 ·obtain ⟨k, rfl⟩ := Int.eq_ofNat_of_zero_le hk.1
  have hk5 : k < 5 := by omega
  obtain ⟨a, n, c, b, m, d, hv, hT, hSl⟩ := HV.out k hk5
  obtain ⟨hD1, hD2, hD3⟩ := HS.out k hk5
  obtain ⟨e1, e2⟩ := fst_eq hv
  have hrow : RowAt w1 w.heap.size 28 (dcells vs) := HR.out.ext hx1
  have p1 := hrow.cell (i := k * 2) (dcells_at vs hk5).1
  have p2 := hrow.cell (i := k * 2 + 1) (dcells_at vs hk5).2
  rw [e1] at p1
  rw [e2] at p2
  have hmm : m ≤ 1048576 := by have := hSl.len; omega
  have hnT := hT.len
  subst hnT
  have hf := fun w' (hx : Ext w w') => find_yes (D k).1 (D k).2 s a _ c b m d w' (hT.ext hx) (hSl.ext hx) hmm hD3 hs (HK.out k hk5).1
  have HF := Lib.hid hf
  have hrr : Hid (idF D (k : Int) s = findF (D k).1 s) := Lib.hid (by unfold idF; rw [if_pos (by omega)]; rfl)
  clear hf hT hSl hD1 hD2 hD3 hv e1 e2 hrow
  have hkn := fun w' => known_any (k : Int) w'
  rw [show (decide (0 ≤ (k : Int)) && decide ((k : Int) < 5)) = true by simp; omega] at hkn
  go_wp2_with (go_at_call 99; refine (hkn _).mono ?_; rintro e w2 ⟨rfl, rfl⟩)
  refine (HF.out _ ((Ext.alloc _ _).trans hx1)).mono ?_
  rintro e w2 ⟨rfl, hx2⟩
  go_wp2_with fail
  go_ret2
  exact ⟨by rw [hrr.out]; rfl, ((Ext.alloc _ _).trans hx1).trans hx2⟩
 ·have hrr : Hid (idF D kind s = -1) := Lib.hid (by unfold idF; rw [if_neg hk])
  have hkn := fun w' => known_any kind w'
  rw [show (decide (0 ≤ kind) && decide (kind < 5)) = false by simp; omega] at hkn
  go_wp2_with (go_at_call 99; refine (hkn _).mono ?_; rintro e w2 ⟨rfl, rfl⟩)
  go_ret2
  exact ⟨by rw [hrr.out]; rfl, (Ext.alloc _ _).trans hx1⟩
set_option maxHeartbeats 1000000 in
theorem name_yes (vs : Nat → Value × Value) (D : Dic) (w : World) (hV : DicV w vs D) (hS : DicS D) (h : DicOK D) (kind q : Int) :
 Calls Tryz.prog 140 #[dv vs, .int .i64 kind, .int .i64 q] w fun e w' => e = .returned (nameF D kind q) ∧ Ext w w' := by
 have hc := fun w' (hx : Ext w w') => dcheck_yes vs D w' (hV.ext hx) hS h
 have HC := Lib.hid hc
 have HV := Lib.hid hV
 have HS := Lib.hid hS
 have HK := Lib.hid h
 have hrow := RowAt.new w 28 (dcells vs)
 have HR := Lib.hid hrow
 clear hc hV hS h hrow
 unfold dv dcells at *
 go_enter Tryz.func140, Tryz.ntmps140
 go_wp2_with fail
 refine (HC.out _ (Ext.alloc _ _)).mono ?_
 rintro e w1 ⟨rfl, hx1⟩
 by_cases hk : 0 ≤ kind ∧ kind < 5
 ·obtain ⟨k, rfl⟩ := Int.eq_ofNat_of_zero_le hk.1
  have hk5 : k < 5 := by omega
  obtain ⟨a, n, c, b, m, d, hv, hT, hSl⟩ := HV.out k hk5
  obtain ⟨hD1, hD2, hD3⟩ := HS.out k hk5
  obtain ⟨e1, e2⟩ := fst_eq hv
  have hrow : RowAt w1 w.heap.size 28 (dcells vs) := HR.out.ext hx1
  have p1 := hrow.cell (i := k * 2) (dcells_at vs hk5).1
  have p2 := hrow.cell (i := k * 2 + 1) (dcells_at vs hk5).2
  rw [e1] at p1
  rw [e2] at p2
  have hmm : m ≤ 1048576 := by have := hSl.len; omega
  have hnT := hT.len
  subst hnT
  have hf := fun w' (hx : Ext w w') => text_yes (D k).1 (D k).2 q a _ c b m d w' (hT.ext hx) (hSl.ext hx) hmm hD3 (HK.out k hk5).1
  have HF := Lib.hid hf
  have hrr : Hid (nameF D (k : Int) q = textF (D k).1 q) := Lib.hid (by unfold nameF; rw [if_pos (by omega)]; rfl)
  clear hf hT hSl hD1 hD2 hD3 hv e1 e2 hrow
  have hkn := fun w' => known_any (k : Int) w'
  rw [show (decide (0 ≤ (k : Int)) && decide ((k : Int) < 5)) = true by simp; omega] at hkn
  go_wp2_with (go_at_call 99; refine (hkn _).mono ?_; rintro e w2 ⟨rfl, rfl⟩)
  refine (HF.out _ ((Ext.alloc _ _).trans hx1)).mono ?_
  rintro e w2 ⟨rfl, hx2⟩
  obtain ⟨ts, tc, ht⟩ : ∃ ts tc, textF (D k).1 q = .tuple #[.string ts, .int .i64 tc] := by unfold textF; split <;> exact ⟨_, _, rfl⟩
  rw [ht] at hrr ⊢
  clear ht
  go_wp2_with fail
  go_ret2
  exact ⟨by rw [hrr.out]; rfl, ((Ext.alloc _ _).trans hx1).trans hx2⟩
 ·have hrr : Hid (nameF D kind q = .tuple #[.string ⟨#[]⟩, .int .i64 2]) := Lib.hid (by unfold nameF; rw [if_neg hk])
  have hkn := fun w' => known_any kind w'
  rw [show (decide (0 ≤ kind) && decide (kind < 5)) = false by simp; omega] at hkn
  go_wp2_with (go_at_call 99; refine (hkn _).mono ?_; rintro e w2 ⟨rfl, rfl⟩)
  go_ret2
  exact ⟨by rw [hrr.out]; rfl, (Ext.alloc _ _).trans hx1⟩
set_option maxHeartbeats 1000000 in
theorem names_yes (vs : Nat → Value × Value) (D : Dic) (w : World) (hV : DicV w vs D) (hS : DicS D) (h : DicOK D) (kind : Int) :
 Calls Tryz.prog 65 #[dv vs, .int .i64 kind] w fun e w' => ∃ u, e = .returned u ∧ w'.ownsRow w.heap.size 9 1 u (namesF D kind).length ((namesF D kind).map Value.string) ∧ Ext w w' := by
 have hc := fun w' (hx : Ext w w') => dcheck_yes vs D w' (hV.ext hx) hS h
 have HC := Lib.hid hc
 have HV := Lib.hid hV
 have HS := Lib.hid hS
 have HK := Lib.hid h
 have hrow := RowAt.new w 28 (dcells vs)
 have HR := Lib.hid hrow
 clear hc hV hS h hrow
 unfold dv dcells at *
 go_enter Tryz.func65, Tryz.ntmps65
 go_wp2_with fail
 refine (HC.out _ (Ext.alloc _ _)).mono ?_
 rintro e w1 ⟨rfl, hx1⟩
 by_cases hk : 0 ≤ kind ∧ kind < 5
 ·obtain ⟨k, rfl⟩ := Int.eq_ofNat_of_zero_le hk.1
  have hk5 : k < 5 := by omega
  obtain ⟨a, n, c, b, m, d, hv, hT, hSl⟩ := HV.out k hk5
  obtain ⟨hD1, hD2, hD3⟩ := HS.out k hk5
  obtain ⟨e1, e2⟩ := fst_eq hv
  have hrow : RowAt w1 w.heap.size 28 (dcells vs) := HR.out.ext hx1
  have p1 := hrow.cell (i := k * 2) (dcells_at vs hk5).1
  have p2 := hrow.cell (i := k * 2 + 1) (dcells_at vs hk5).2
  rw [e1] at p1
  rw [e2] at p2
  have hmm : m ≤ 1048576 := by have := hSl.len; omega
  have hnT := hT.len
  subst hnT
  have hf := fun w' (hx : Ext w w') => cloneS (.slice a _ c) (D k).1 w' (hT.ext hx) (by omega)
  have HF := Lib.hid hf
  have hrr : Hid (namesF D (k : Int) = (D k).1) := Lib.hid (by unfold namesF; rw [if_pos (by omega)]; rfl)
  clear hf hT hSl hD1 hD2 hD3 hv e1 e2 hrow
  have hkn := fun w' => known_any (k : Int) w'
  rw [show (decide (0 ≤ (k : Int)) && decide ((k : Int) < 5)) = true by simp; omega] at hkn
  go_wp2_with (go_at_call 99; refine (hkn _).mono ?_; rintro e w2 ⟨rfl, rfl⟩)
  refine (HF.out _ ((Ext.alloc _ _).trans hx1)).mono ?_
  rintro e w2 ⟨u, cu, rfl, ho2, hx2⟩
  go_wp2_with fail
  go_ret
  exact ⟨_, rfl, by rw [hrr.out]; exact own_base ho2 ((Ext.alloc _ _).trans hx1).size, ((Ext.alloc _ _).trans hx1).trans hx2⟩
 ·have hrr : Hid (namesF D kind = []) := Lib.hid (by unfold namesF; rw [if_neg hk])
  have hkn := fun w' => known_any kind w'
  rw [show (decide (0 ≤ kind) && decide (kind < 5)) = false by simp; omega] at hkn
  go_wp2_with (go_at_call 99; refine (hkn _).mono ?_; rintro e w2 ⟨rfl, rfl⟩)
  go_ret
  exact ⟨_, rfl, by rw [hrr.out]; exact World.ownsRow_nil _ _ _ _, (Ext.alloc _ _).trans hx1⟩
end Go.Proofs.YtkmbnghghbfkdaaGreat

/- A dictionary in memory of its own: what it asks for; New. -/
namespace Go.Proofs.YtkmbnghghbfkdaaGreat
open Go.RowKit Go.Shelf Go.Sort
attribute [local go_sem] Oper.semAt_some wide_fn wide_depth
theorem RowAt.set_ne {w : World} {g g' i : Nat} {t : TypeId} {xs : List Value} {v : Value} (h : RowAt w g t xs) (hne : g' ≠ g) : RowAt (w.setCell ⟨g', i, none⟩ v) g t xs := h.kept (grown_set w g' i v) (fun e => hne (Option.some.inj e))
def setL : World → Nat → Nat → List Value → World
 | W, _, _, [] => W
 | W, g, i, x :: xs => setL (W.setCell ⟨g, i, none⟩ x) g (i + 1) xs
theorem own_setL {B size n : Nat} {e : TypeId} {v : Value} {ys : List Value} {g : Nat} (hg : g < B) : ∀ (xs : List Value) (i : Nat) {W : World}, W.ownsRow B e size v n ys → (setL W g i xs).ownsRow B e size v n ys
 | [], _, _, h => h
 | x :: xs, i, _, h => own_setL hg xs (i + 1) (own_kept h (grown_set _ g i x) (fun r hr => by cases hr; omega))
theorem below_setL {B g : Nat} {w : World} (hg : B ≤ g) : ∀ (xs : List Value) (i : Nat) {W : World}, Below B w W → Below B w (setL W g i xs)
 | [], _, _, h => h
 | x :: xs, i, _, h => below_setL hg xs (i + 1) (h.setCell (p := ⟨g, i, none⟩) hg x)
theorem row_setL {g : Nat} {t : TypeId} : ∀ (xs pre ys : List Value) {W : World}, RowAt W g t (pre ++ ys) → ys.length = xs.length → RowAt (setL W g pre.length xs) g t (pre ++ xs)
 | [], pre, ys, W, h, hl => by
  obtain rfl : ys = [] := List.eq_nil_of_length_eq_zero (by simpa using hl)
  exact h
 | x :: xs, pre, [], W, h, hl => by simp at hl
 | x :: xs, pre, y :: ys, W, h, hl => by
  have h1 := h.set pre.length x
  rw [show (pre ++ y :: ys).set pre.length x = (pre ++ [x]) ++ ys by simp [List.set_append]] at h1
  have := row_setL xs (pre ++ [x]) ys h1 (by simpa using hl)
  rw [show (pre ++ [x]).length = pre.length + 1 by simp, List.append_assoc] at this
  exact this
theorem heap_setL_ne {g D : Nat} (hg : g ≠ D) : ∀ (xs : List Value) (i : Nat) (W : World), (setL W g i xs).heap[D]? = W.heap[D]?
 | [], _, _ => rfl
 | x :: xs, i, W => (heap_setL_ne hg xs (i + 1) _).trans (Below.heap_setCell _ _ _ _ (fun e => hg e.symm))
def DicOwn (B : Nat) (w : World) (vs : Nat → Value × Value) (D : Dic) : Prop := ∀ i, i < 5 → TabOwn B w (.agg #[(vs i).1, (vs i).2]) (D i).1 (D i).2
theorem DicOwn.ext {B : Nat} {w w' : World} {vs : Nat → Value × Value} {D : Dic} (h : DicOwn B w vs D) (hx : Ext w w') : DicOwn B w' vs D := fun i hi => (h i hi).ext hx
theorem DicOwn.base {B B' : Nat} {w : World} {vs : Nat → Value × Value} {D : Dic} (h : DicOwn B w vs D) (hb : B' ≤ B) : DicOwn B' w vs D := fun i hi => (h i hi).base hb
theorem TabOwn.setL {B : Nat} {w : World} {v : Value} {T : List ByteArray} {S : List Int} (h : TabOwn B w v T S) {g : Nat} (hg : g < B) (xs : List Value) (i : Nat) : TabOwn B (setL w g i xs) v T S := by
 obtain ⟨a, n, c, b, m, d, rfl, h1, h2⟩ := h
 exact ⟨a, n, c, b, m, d, rfl, own_setL hg xs i h1, own_setL hg xs i h2⟩
theorem TabOwn.pair {B : Nat} {w : World} {v : Value × Value} {T : List ByteArray} {S : List Int} (h : TabOwn B w (.agg #[v.1, v.2]) T S) : ∃ a c b d, v = (.slice a T.length c, .slice b S.length d) ∧
 w.ownsRow B 9 1 (.slice a T.length c) T.length (T.map Value.string) ∧ w.ownsRow B 3 1 (.slice b S.length d) S.length (S.map (Value.int .i64)) := by
 obtain ⟨a, n, c, b, m, d, e, h1, h2⟩ := h
 obtain ⟨v1, v2⟩ := v
 simp at e
 obtain ⟨rfl, rfl⟩ := e
 have e1 := ownsRow_shape h1
 have e2 := ownsRow_shape h2
 subst e1 e2
 exact ⟨a, c, b, d, rfl, h1, h2⟩
theorem DicOwn.view {B : Nat} {w : World} {vs : Nat → Value × Value} {D : Dic} (h : DicOwn B w vs D) : DicV w vs D := fun i hi => by
 obtain ⟨a, c, b, d, e, h1, h2⟩ := (h i hi).pair
 exact ⟨a, _, c, b, _, d, e, Sl.of_own h1, Sl.of_own h2⟩
def upd {α : Type} (ts : Nat → α) (k : Nat) (u : α) : Nat → α := fun i => if i = k then u else ts i
theorem upd_at {α : Type} (ts : Nat → α) (k : Nat) (u : α) : upd ts k u k = u := if_pos rfl
theorem upd_ne {α : Type} (ts : Nat → α) {k i : Nat} (u : α) (h : i ≠ k) : upd ts k u i = ts i := if_neg h
theorem dcells_upd (ts : Nat → Value × Value) {k : Nat} (h : k < 5) (x y : Value) : dcells (upd ts k (x, y)) = ((dcells ts).set (k * 2) x).set (k * 2 + 1) y := by
 have hc : k = 0 ∨ k = 1 ∨ k = 2 ∨ k = 3 ∨ k = 4 := by omega
 rcases hc with rfl | rfl | rfl | rfl | rfl <;> rfl
theorem row_upd {W : World} {g : Nat} {t : TypeId} {ts : Nat → Value × Value} (h : RowAt W g t (dcells ts)) {k : Nat} (hk : k < 5) (x y : Value) : RowAt ((W.setCell ⟨g, k * 2, none⟩ x).setCell ⟨g, k * 2 + 1, none⟩ y) g t (dcells (upd ts k (x, y))) := by
 rw [dcells_upd ts hk]
 exact (h.set (k * 2) x).set (k * 2 + 1) y
def noV : Nat → Value × Value := fun _ => (.slice none 0 0, .slice none 0 0)
abbrev Heads := Nat → Option Addr × Nat × Nat × Option Addr × Nat × Nat
def hv (A : Heads) : Nat → Value × Value := fun i => (.slice (A i).1 (A i).2.1 (A i).2.2.1, .slice (A i).2.2.2.1 (A i).2.2.2.2.1 (A i).2.2.2.2.2)
theorem heads {vs : Nat → Value × Value} (h : ∀ i, i < 5 → ∃ a n c b m d, vs i = (.slice a n c, .slice b m d)) : ∃ A, (∀ i, i < 5 → vs i = hv A i) ∧ dcells vs = dcells (hv A) := by
 have hA : ∃ A : Heads, ∀ i, i < 5 → vs i = hv A i := by
  refine ⟨fun i => match vs i with | (.slice a n c, .slice b m d) => (a, n, c, b, m, d) | _ => (none, 0, 0, none, 0, 0), fun i hi => ?_⟩
  obtain ⟨a, n, c, b, m, d, e⟩ := h i hi
  simp [hv, e]
 obtain ⟨A, hA⟩ := hA
 refine ⟨A, hA, ?_⟩
 unfold dcells
 rw [hA 0 (by omega), hA 1 (by omega), hA 2 (by omega), hA 3 (by omega), hA 4 (by omega)]
theorem set10 (W : World) (g : Nat) (x0 x1 x2 x3 x4 x5 x6 x7 x8 x9 : Value) : ((((((((((W.setCell ⟨g, 0, none⟩ x0).setCell ⟨g, 1, none⟩ x1).setCell ⟨g, 2, none⟩ x2).setCell ⟨g, 3, none⟩ x3).setCell ⟨g, 4, none⟩ x4).setCell ⟨g, 5, none⟩ x5).setCell ⟨g, 6, none⟩ x6).setCell ⟨g, 7, none⟩ x7).setCell ⟨g, 8, none⟩ x8).setCell ⟨g, 9, none⟩ x9) = setL W g 0 [x0, x1, x2, x3, x4, x5, x6, x7, x8, x9] := rfl
theorem row_set10 {g : Nat} {t : TypeId} {vs : Nat → Value × Value} {W : World} (ts : Nat → Value × Value) (h : RowAt W g t (dcells vs)) : RowAt (setL W g 0 (dcells ts)) g t (dcells ts) := row_setL (dcells ts) [] (dcells vs) h rfl
theorem RowAt.facts10f {w : World} {g : Nat} {t : TypeId} {xs : List Value} (h : RowAt w g t xs) : w.frozen? ⟨g, 0, none⟩ = false ∧ w.frozen? ⟨g, 1, none⟩ = false ∧ w.frozen? ⟨g, 2, none⟩ = false ∧ w.frozen? ⟨g, 3, none⟩ = false ∧ w.frozen? ⟨g, 4, none⟩ = false ∧ w.frozen? ⟨g, 5, none⟩ = false ∧ w.frozen? ⟨g, 6, none⟩ = false ∧ w.frozen? ⟨g, 7, none⟩ = false ∧ w.frozen? ⟨g, 8, none⟩ = false ∧ w.frozen? ⟨g, 9, none⟩ = false :=
 ⟨h.frozen 0, h.frozen 1, h.frozen 2, h.frozen 3, h.frozen 4, h.frozen 5, h.frozen 6, h.frozen 7, h.frozen 8, h.frozen 9⟩
end Go.Proofs.YtkmbnghghbfkdaaGreat

/- A dictionary in memory of its own. -/
namespace Go.Proofs.YtkmbnghghbfkdaaGreat
open Go.RowKit Go.Shelf Go.Sort
attribute [local go_sem] Oper.semAt_some wide_fn wide_depth
theorem tab_mark {B : Nat} {W : World} {D : Nat} {v : Value} {T : List ByteArray} {S : List Int} (h : TabOwn B W v T S) (hD : W.heap[D]? = some (.deferred (some []))) : TabOwn B (W.putObj D (.deferred none)) v T S := by
 obtain ⟨a, n, c, b, m, d, rfl, h1, h2⟩ := h
 exact ⟨a, n, c, b, m, d, rfl, own_mark h1 hD, own_mark h2 hD⟩
structure OwI (w : World) (vs : Nat → Value × Value) (D : Dic) (k : Nat) (ts : Nat → Value × Value) (W : World) : Prop where
 below : Below w.heap.size w W
 arg : RowAt W (w.heap.size + 1 + 1) 28 (dcells vs)
 out : RowAt W (w.heap.size + 1) 28 (dcells noV)
 d : RowAt W w.heap.size 28 (dcells ts)
 own : ∀ i, i < k → TabOwn (w.heap.size + 1 + 1 + 1) W (.agg #[(ts i).1, (ts i).2]) (D i).1 (D i).2
theorem Stab.tabOwn (B b : Nat) (v : Value) (T : List ByteArray) (S : List Int) : Stab B (fun W => TabOwn b W v T S) := fun W W' row h hg hr => by
 obtain ⟨a, n, c, b', m, d, rfl, h1, h2⟩ := h
 exact ⟨a, n, c, b', m, d, rfl, Stab.own B _ _ _ _ _ _ W W' row h1 hg hr, Stab.own B _ _ _ _ _ _ W W' row h2 hg hr⟩
theorem OwI.stab (w : World) (vs : Nat → Value × Value) (D : Dic) (k : Nat) (ts : Nat → Value × Value) (B : Nat) (hB : w.heap.size ≤ B) : Stab B (OwI w vs D k ts) := fun W W' row h hg hr =>
 ⟨Stab.belowW w B hB W W' row h.below hg hr, Stab.rowD _ _ _ _ W W' row h.arg hg hr, Stab.rowD _ _ _ _ W W' row h.out hg hr, Stab.rowD _ _ _ _ W W' row h.d hg hr, fun i hi => Stab.tabOwn _ _ _ _ _ W W' row (h.own i hi) hg hr⟩
theorem OwI.ext {w : World} {vs : Nat → Value × Value} {D : Dic} {k : Nat} {ts : Nat → Value × Value} {W W' : World} (h : OwI w vs D k ts W) (hx : Ext W W') : OwI w vs D k ts W' :=
 ⟨Below.ext h.below hx h.below.size, h.arg.ext hx, h.out.ext hx, h.d.ext hx, fun i hi => (h.own i hi).ext hx⟩
theorem OwI.next {w : World} {vs : Nat → Value × Value} {D : Dic} {k : Nat} {ts : Nat → Value × Value} {W : World} (h : OwI w vs D k ts W) (hk : k < 5) {ua ub : Option Addr} {ca cb : Nat} {wa wb : World}
 (hxa : Ext W wa) (ha : wa.ownsRow W.heap.size 9 1 (.slice ua (D k).1.length ca) (D k).1.length ((D k).1.map Value.string)) (hxb : Ext wa wb) (hb : wb.ownsRow wa.heap.size 3 1 (.slice ub (D k).2.length cb) (D k).2.length ((D k).2.map (Value.int .i64))) (B : Nat) :
 KeepsFrom B W ((wb.setCell ⟨w.heap.size, k * 2, none⟩ (.slice ua (D k).1.length ca)).setCell ⟨w.heap.size, k * 2 + 1, none⟩ (.slice ub (D k).2.length cb)) ∧
  OwI w vs D (k + 1) (upd ts k (.slice ua (D k).1.length ca, .slice ub (D k).2.length cb)) ((wb.setCell ⟨w.heap.size, k * 2, none⟩ (.slice ua (D k).1.length ca)).setCell ⟨w.heap.size, k * 2 + 1, none⟩ (.slice ub (D k).2.length cb)) := by
 have hI := (h.ext hxa).ext hxb
 have hz := h.arg.lt
 have h1 := hxa.size
 have p1 := hI.d.cell (i := k * 2) (dcells_at ts hk).1
 have r1 := hI.d.set (k * 2) (.slice ua (D k).1.length ca)
 have p2 := r1.cell (i := k * 2 + 1) (by rw [List.getElem?_set_ne (by omega)]; exact (dcells_at ts hk).2)
 refine ⟨((keeps_ext B (hxa.trans hxb)).trans (keeps_set B p1 _)).trans (keeps_set B p2 _), ?_, ?_, ?_, row_upd hI.d hk _ _, ?_⟩
 ·exact (hI.below.setCell (p := ⟨w.heap.size, k * 2, none⟩) (Nat.le_refl _) _).setCell (p := ⟨w.heap.size, k * 2 + 1, none⟩) (Nat.le_refl _) _
 ·exact (RowAt.set_ne (RowAt.set_ne hI.arg (by omega)) (by omega))
 ·exact (RowAt.set_ne (RowAt.set_ne hI.out (by omega)) (by omega))
 ·intro i hi
  by_cases e : i = k
  ·subst e
   rw [upd_at]
   refine (TabOwn.setL (g := w.heap.size) ?_ (by omega) [_] _).setL (by omega) [_] _
   exact ⟨_, _, _, _, _, _, rfl, own_base (own_ext ha hxb) (by omega), own_base hb (by omega)⟩
  ·rw [upd_ne _ _ e]
   exact ((hI.own i (by omega)).setL (by omega) [_] _).setL (by omega) [_] _
def groOwn : Nat → Gro
 | 2 => .read
 | 5 => .read
 | 3 => .grow
 | 6 => .grow
 | 9 => .write
 | 10 => .write
 | _ => .pure
set_option maxRecDepth 100000 in
set_option maxHeartbeats 2000000 in
theorem down_any (vs : Nat → Value × Value) (D : Dic) (w : World) (hV : DicV w vs D) (hS : DicS D) :
 Calls Tryz.prog 58 #[dv vs] w fun e w' => ∃ us, e = .returned (dv us) ∧ DicOwn w.heap.size w' us D ∧ Ext w w' := by
 have hmo : Tryz.prog.follows .mixedOrders = true := by kernel_rfl
 have hk := fun w => kinds_any vs w
 have hI0 : OwI w vs D 0 vs (((w.alloc (.cells (dcells vs).toArray 28)).alloc (.cells (dcells noV).toArray 28)).alloc (.cells (dcells vs).toArray 28)) :=
  ⟨((Ext.alloc _ _).trans (Ext.alloc _ _)).trans (Ext.alloc _ _), row_at (by simp), (row_at (xs := dcells noV) (by simp)).ext (Ext.alloc _ _), ((RowAt.new w _ (dcells vs)).ext (Ext.alloc _ _)).ext (Ext.alloc _ _), fun i h => by omega⟩
 have hx0 : Ext w (((w.alloc (.cells (dcells vs).toArray 28)).alloc (.cells (dcells noV).toArray 28)).alloc (.cells (dcells vs).toArray 28)) := ((Ext.alloc _ _).trans (Ext.alloc _ _)).trans (Ext.alloc _ _)
 have hsz : (((w.alloc (.cells (dcells vs).toArray 28)).alloc (.cells (dcells noV).toArray 28)).alloc (.cells (dcells vs).toArray 28)).heap.size = w.heap.size + 1 + 1 + 1 := by simp
 have hsz2 : ((w.alloc (.cells (dcells vs).toArray 28)).alloc (.cells (dcells noV).toArray 28)).heap.size = w.heap.size + 1 + 1 := by simp
 unfold dv at hk
 unfold dv
 have hdc : (dcells vs).toArray = #[(vs 0).1, (vs 0).2, (vs 1).1, (vs 1).2, (vs 2).1, (vs 2).2, (vs 3).1, (vs 3).2, (vs 4).1, (vs 4).2] := rfl
 have hdn : (dcells noV).toArray = #[.slice none 0 0, .slice none 0 0, .slice none 0 0, .slice none 0 0, .slice none 0 0, .slice none 0 0, .slice none 0 0, .slice none 0 0, .slice none 0 0, .slice none 0 0] := rfl
 rw [hdc]
 simp only [hdc, hdn] at hI0 hx0 hsz hsz2 hk
 refine calls_of_wp_marks Tryz.func58 rfl ?_
 simp only [Tryz.ntmps58, List.size_toArray, List.length_cons, List.length_nil, Nat.reduceAdd, Nat.reduceSub, Array.replicate_succ, Array.replicate_zero, List.push_toArray, List.append_toArray, List.nil_append, List.cons_append]
 go_wp2_with (go_at_call 76; refine (hk _).mono ?_; rintro e w' ⟨rfl, rfl⟩)
 generalize (((w.alloc (.cells #[(vs 0).1, (vs 0).2, (vs 1).1, (vs 1).2, (vs 2).1, (vs 2).2, (vs 3).1, (vs 3).2, (vs 4).1, (vs 4).2] 28)).alloc (.cells #[.slice none 0 0, .slice none 0 0, .slice none 0 0, .slice none 0 0, .slice none 0 0, .slice none 0 0, .slice none 0 0, .slice none 0 0, .slice none 0 0, .slice none 0 0] 28)).alloc (.cells #[(vs 0).1, (vs 0).2, (vs 1).1, (vs 1).2, (vs 2).1, (vs 2).2, (vs 3).1, (vs 3).2, (vs 4).1, (vs 4).2] 28)) = w1 at *
 have hsh := hV.shape
 have HV := Lib.hid (hV.ext hx0)
 have HV0 := Lib.hid hV
 have HS := Lib.hid hS
 have hwz := hx0.size
 have HXW := Lib.hid hx0
 clear hk hx0 hdc hdn hV hS hsz2
 refine wp_overI rfl (enters_of Tryz.func109 (by kernel_rfl) rfl) (kinds_iter vs _ hsh)
  (by rintro k W args rfl; rfl) (fun k args => Stab.pure _ _)
  (fun k W => ∃ ts, OwI w vs D k ts W) (fun q W => False)
  (fun k => Stab.ex fun ts => OwI.stab _ _ _ _ _ _ hwz) (fun q => Stab.pure _ _) (fun k W ⟨ts, h⟩ => h.arg) ⟨_, hI0⟩ ?_ ?_ ?_
 ·rintro k args W L hk hL ⟨ts0, hI0'⟩ rfl
  obtain ⟨a, n, c, b, m, d, hv, hT, hSl⟩ := HV0.out k hk
  obtain ⟨hD1, hD2, hD3⟩ := HS.out k hk
  obtain ⟨e1, e2⟩ := fst_eq hv
  rw [e1, e2]
  clear hsh hI0 hv e1 e2 hsz
  gi_wp2
  refine ⟨keeps_ext _ (Ext.alloc _ _), ⟨ts0, hI0'.ext (Ext.alloc _ _)⟩, trivial, ?_⟩
  have hb2 : RowAt (W.alloc (.cells #[.slice a n c, .slice b m d] 25)) W.heap.size 25 [.slice a n c, .slice b m d] := RowAt.new _ _ _
  rintro W2 hst ⟨ts, hI⟩ -
  replace hb2 := (hst _ (Stab.rowD _ _ _ _) hb2)
  obtain ⟨p1, p2, q1, q2⟩ := hb2.facts2
  replace hb2 := hb2.ext (Ext.drewN _ 1)
  replace hI := hI.ext (Ext.drewN _ 1)
  have p1' := hb2.facts2.1
  have p2' := hb2.facts2.2.1
  have HT := Lib.hid (hT.below hI.below (Nat.le_refl _))
  have HSl := Lib.hid (hSl.below hI.below (Nat.le_refl _))
  have HI := Lib.hid hI
  have f0 := hI.d.frozen (k * 2)
  clear hst hb2 hT hSl hI hI0' f0
  have hcall : ∀ {f : Nat} {args : Array Value} {w : World} {R : Ending → World → Prop}, Calls Tryz.prog f args w R → CallsIn (Fence.wide.inRound L) 0 Tryz.prog f args w R := fun h => (callsIn_wide (n := 0)).2 h
  gi_wp2_with fail
  clear HV HV0 HS hwz HXW hD3 q1 q2 hL
  generalize Value.agg #[(vs 0).1, (vs 0).2, (vs 1).1, (vs 1).2, (vs 2).1, (vs 2).2, (vs 3).1, (vs 3).2, (vs 4).1, (vs 4).2] = dvv
  refine wpIn_region_gro groOwn [0, 1, 4, 8, 2, 5, 3, 6, 7, 9, 10] hmo (by kernel_rfl) (by kernel_rfl) rfl (by kernel_rfl) (fun _ _ _ _ _ h => h) ?_
  replace p1' : W2.drew.cell? _ = _ := p1'
  replace p2' : W2.drew.cell? _ = _ := p2'
  repeat (first
   | (refine groL_pure rfl rfl ?_; intro K hK; go_simp; refine hK _ ?_; clear hK K)
   | (refine groL_read rfl rfl ?_; intro K S hS hK; go_simp; refine hK _ ?_; clear hK K hS S)
   | (refine groL_read rfl rfl ?_; intro K S hS hK; go_simp; refine ⟨hS _ ?_, hK _ ?_⟩; (clear hK K hS S; intro w' hx'; have hce := ext_some hx'; go_simp); clear hK K hS S)
   | (refine groL_write rfl rfl ?_; intro K hK; go_simp; refine hK _ _ ?_; clear hK K))
  refine groL_grow rfl rfl ?_
  intro K hK
  go_simp
  (refine (cloneS _ (D k).1 _ HT.out (by omega)).mono ?_; rintro e wa ⟨ua, ca, rfl, hoa, hxa⟩)
  go_simp
  refine hK _ _ ⟨hxa, ?_⟩
  clear hK K
  refine groL_grow rfl rfl ?_
  intro K hK
  go_simp
  (refine (cloneI _ (D k).2 _ (HSl.out.ext hxa) (by omega)).mono ?_; rintro e wb ⟨ub, cb, rfl, hob, hxb⟩)
  go_simp
  refine hK _ _ ⟨hxb, ?_⟩
  clear hK K
  have hIb := (HI.out.ext hxa).ext hxb
  have r0 := hIb.d.cell (i := k * 2) (dcells_at ts hk).1
  have r1 := hIb.d.cell (i := k * 2 + 1) (dcells_at ts hk).2
  have f0 := hIb.d.frozen (k * 2)
  have f1 := hIb.d.frozen (k * 2 + 1)
  clear hIb
  have hki : (k : Int) < 5 := by omega
  repeat (first
   | (refine groL_pure rfl rfl ?_; intro K hK; go_simp; refine hK _ ?_; clear hK K)
   | (refine groL_read rfl rfl ?_; intro K S hS hK; go_simp; refine hK _ ?_; clear hK K hS S)
   | (refine groL_read rfl rfl ?_; intro K S hS hK; go_simp; refine ⟨hS _ ?_, hK _ ?_⟩; (clear hK K hS S; intro w' hx'; have hce := ext_some hx'; go_simp); clear hK K hS S)
   | (refine groL_write rfl rfl ?_; intro K hK; go_simp; refine hK _ _ ?_; clear hK K))
  refine groL_nil ?_
  have HN := Lib.hid (HI.out.next hk hxa hoa hxb hob w1.heap.size)
  gi_wp2
  exact ⟨(keeps_ext _ (Ext.drewN W2 1)).trans HN.out.1, _, HN.out.2⟩
 ·rintro Dd W hD ⟨ts, hI⟩ hdf
  obtain ⟨A, hA1, hA2⟩ := heads (vs := ts) (fun i hi => by obtain ⟨a, c, b, d, e, _⟩ := (hI.own i hi).pair; exact ⟨_, _, _, _, _, _, e⟩)
  have hd := hI.d
  rw [hA2] at hd
  obtain ⟨c0, c1, c2, c3, c4, c5, c6, c7, c8, c9⟩ := hd.facts10
  obtain ⟨d0, d1, d2, d3, d4, d5, d6, d7, d8, d9⟩ := RowAt.facts10 (vs := noV) hI.out
  obtain ⟨g0, g1, g2, g3, g4, g5, g6, g7, g8, g9⟩ := hI.out.facts10f
  have HI := Lib.hid hI
  clear hI0 hsh hI hd
  simp only [noV] at d0 d1 d2 d3 d4 d5 d6 d7 d8 d9
  simp only [hv] at c0 c1 c2 c3 c4 c5 c6 c7 c8 c9
  go_wp2
  rw [set10]
  clear d0 d1 d2 d3 d4 d5 d6 d7 d8 d9 c0 c1 c2 c3 c4 c5 c6 c7 c8 c9 g0 g1 g2 g3 g4 g5 g6 g7 g8 g9
  have hro := row_set10 (hv A) HI.out.out
  have hwl := HI.out.out.lt
  have hD2 : w.heap.size + 1 + 1 + 1 ≤ Dd := by omega
  have hdf' : (setL W (w.heap.size + 1) 0 (dcells (hv A))).heap[Dd]? = some (.deferred (some [])) := (heap_setL_ne (by omega) _ _ _).trans hdf
  have hfin : DicOwn w.heap.size ((setL W (w.heap.size + 1) 0 (dcells (hv A))).putObj Dd (.deferred none)) (hv A) D := fun i hi => by rw [← hA1 i hi]; exact tab_mark ((((HI.out.own i hi).setL (by omega) _ 0).base (by omega))) hdf'
  have hbf := below_mark (D := Dd) (below_setL (Nat.le_succ w.heap.size) (dcells (hv A)) 0 HI.out.below) (by omega)
  obtain ⟨q0, q1, q2, q3, q4, q5, q6, q7, q8, q9⟩ := RowAt.facts10 (row_mark hro hdf')
  refine leave_markedC hdf' (v := dv (hv A)) ?_ ⟨_, rfl, hfin, hbf⟩
  unfold dv dcells hv at *
  simp [results, Tryz.results58, go_sem, q0, q1, q2, q3, q4, q5, q6, q7, q8, q9]
 ·rintro _ _ _ _ ⟨⟩
end Go.Proofs.YtkmbnghghbfkdaaGreat
