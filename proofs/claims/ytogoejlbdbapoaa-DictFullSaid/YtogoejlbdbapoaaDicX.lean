/- A dictionary's bytes. -/
import Derived.Test.YtogoejlbdbapoaaDicV
import Derived.Test.YtogoejlbdbapoaaCodX
namespace Go.Proofs.Ytogoejlbdbapoaa
set_option maxRecDepth 100000
set_option maxHeartbeats 2000000
set_option linter.unusedSimpArgs false
open Go.RowKit Go.Shelf Go.Sort
attribute [local go_sem] Oper.semAt_some wide_fn wide_depth
set_option linter.unusedVariables false

/-- The bytes of a kind's names, and of all of the first k kinds. -/
def kindB (l : List ByteArray) : List Int := num 9 l.length ++ l.flatMap (fun s => textB (sb s))
def bytesTo (N : Nms) : Nat → List Int
  | 0 => []
  | k + 1 => bytesTo N k ++ kindB (N k)
def SmallN (N : Nms) : Prop := ∀ i, i < 5 → (N i).length ≤ 128 ∧ ∀ s ∈ N i, s.size ≤ 40
theorem mayB_size {k : Int} {l : List UInt8} (h : mayB k l = true) : l.length ≤ 40 := by
  unfold mayB at h
  simp only [Bool.and_eq_true, decide_eq_true_eq] at h
  obtain ⟨_, _, h⟩ := h
  split at h
  · unfold worthB allB at h; simp only [Bool.and_eq_true, decide_eq_true_eq] at h; exact h.2.2
  · unfold nameB allB at h; simp only [Bool.and_eq_true, decide_eq_true_eq] at h; omega
theorem badB_all {k : Int} {T : List ByteArray} (h : badB k T = false) : ∀ s ∈ T, mayB k (bts s) = true := fun s hs => by
  cases hm : mayB k (bts s) with
  | true => rfl
  | false =>
    have : badB k T = true := by unfold badB; rw [List.any_eq_true]; exact ⟨s, hs, by rw [hm]; rfl⟩
    rw [h] at this; cases this
theorem DicOK.small {D : Dic} (h : DicOK D) : SmallN (ofD D) := fun i hi => ⟨(h i hi).2.1, fun s hs => by
  have := mayB_size (badB_all (h i hi).2.2 s hs)
  rw [bts_len] at this; exact this⟩
theorem textB_len {s : ByteArray} (h : s.size ≤ 40) : (textB (sb s)).length ≤ 50 := by
  have h1 := num_len 9 ((sb s).length : Int)
  have h2 : (sb s).length = s.size := by simp [sb]
  unfold textB
  rw [List.length_append]; omega
theorem texts_len {T : List ByteArray} (h : ∀ s ∈ T, s.size ≤ 40) : (T.flatMap (fun s => textB (sb s))).length ≤ 50 * T.length := by
  induction T with
  | nil => simp
  | cons s T ih =>
    rw [List.flatMap_cons, List.length_append, List.length_cons]
    have h1 := textB_len (h s (by simp))
    have h2 := ih (fun x hx => h x (by simp [hx]))
    omega
theorem kindB_len {T : List ByteArray} (hl : T.length ≤ 128) (h : ∀ s ∈ T, s.size ≤ 40) : (kindB T).length ≤ 6500 := by
  have h1 := texts_len h
  have h2 := num_len 9 (T.length : Int)
  unfold kindB
  rw [List.length_append]; omega
theorem bytesTo_len {N : Nms} (h : SmallN N) : ∀ k, k ≤ 5 → (bytesTo N k).length ≤ 6500 * k
  | 0, _ => Nat.le_refl _
  | k + 1, hk => by
    have h1 := bytesTo_len h k (by omega)
    have h2 := kindB_len (h k (by omega)).1 (h k (by omega)).2
    unfold bytesTo
    rw [List.length_append]; omega
/-- What holds when some bytes have been written. -/
structure ByI (w : World) (y : Nat) (vs : Nat → Value × Value) (L : List Int) (u : Value) (W : World) : Prop where
  below : Below w.heap.size w W
  arg : RowAt W (y + 1) 28 (dcells vs)
  o2 : RowAt W (w.heap.size + 1) 51 [.slice none 0 0]
  o3 : RowAt W (w.heap.size + 1 + 1) 32 [.int .i64 0]
  o5 : RowAt W y 51 [u]
  own : Own W (y + 1 + 1) 5 .u8 u L
theorem ByI.stab (w : World) (y : Nat) (vs : Nat → Value × Value) (L : List Int) (u : Value) (B : Nat) (hB : w.heap.size ≤ B) : Stab B (ByI w y vs L u) := fun W W' row h hg hr =>
  ⟨Stab.belowW w B hB W W' row h.below hg hr, Stab.row _ _ _ _ W W' row h.arg hg hr, Stab.row _ _ _ _ W W' row h.o2 hg hr, Stab.row _ _ _ _ W W' row h.o3 hg hr, Stab.row _ _ _ _ W W' row h.o5 hg hr, Stab.own B _ _ _ _ _ _ W W' row h.own hg hr⟩
theorem ByI.grow {w : World} {y : Nat} {vs : Nat → Value × Value} {L : List Int} {u : Value} {W W' : World} (h : ByI w y vs L u W) (hx : Ext W W') : ByI w y vs L u W' :=
  ⟨below_step h.below hx, h.arg.ext hx, h.o2.ext hx, h.o3.ext hx, h.o5.ext hx, own_ext h.own hx⟩
theorem ByI.app {w : World} {y : Nat} {vs : Nat → Value × Value} {L M : List Int} {u v : Value} {W W' : World} (h : ByI w y vs L u W) (hy : w.heap.size + 3 ≤ y) (B : Nat)
    (hown : W'.ownsRow (y + 1 + 1) 5 1 v (L.length + M.length) (L.map (Value.int .u8) ++ M.map (Value.int .u8))) (hb : Below (y + 1 + 1) W W') (hg : W.grownBy W' u.ownBlock) :
    KeepsFrom B W (W'.setCell ⟨y, 0, none⟩ v) ∧ ByI w y vs (L ++ M) v (W'.setCell ⟨y, 0, none⟩ v) := by
  have h5 := h.o5.below hb (by omega)
  refine ⟨(keeps_own h.own hg).trans (keeps_set _ h5.facts1.1 _), ?_, RowAt.set_ne (h.arg.below hb (by omega)) (by omega), RowAt.set_ne (h.o2.below hb (by omega)) (by omega), RowAt.set_ne (h.o3.below hb (by omega)) (by omega), h5.set 0 v, ?_⟩
  · exact ((h.below.trans (hb.mono (by omega))).setCell (p := ⟨y, 0, none⟩) (by show w.heap.size ≤ y; omega) _)
  · unfold Own
    rw [List.length_append, List.map_append]
    exact own_setL (by omega) [_] _ hown
def groBy : Nat → Gro
  | 0 => .read
  | 2 => .read
  | 5 => .grow
  | 6 => .write
  | 7 => .write
  | _ => .pure
theorem dbytes_no (vs : Nat → Value × Value) (D : Dic) (w : World) (hV : DicV w vs D) (hS : DicS D) (h : ¬ DicOK D) :
    Calls Try.prog 25 #[dv vs] w fun e w' => e = .returned (.tuple #[.slice none 0 0, .int .i64 160]) ∧ Ext w w' := by
  have hc := fun w' (hx : Ext w w') => dcheck_no vs D w' (hV.ext hx) hS h
  have hrow := RowAt.new w 28 (dcells vs)
  have HC := Lib.hid hc
  clear hc hV hS hrow
  unfold dv dcells at *
  go_enter Try.func25, Try.ntmps25
  go_wp2_with fail
  refine (HC.out _ (((Ext.alloc _ _).trans (Ext.alloc _ _)).trans (Ext.alloc _ _))).mono ?_
  rintro e w1 ⟨rfl, hx1⟩
  have hx3 := (((Ext.alloc w (.cells #[(vs 0).1, (vs 0).2, (vs 1).1, (vs 1).2, (vs 2).1, (vs 2).2, (vs 3).1, (vs 3).2, (vs 4).1, (vs 4).2] 28)).trans (Ext.alloc _ (.cells #[.slice none 0 0] 51))).trans (Ext.alloc _ (.cells #[.int .i64 0] 32))).trans hx1
  have hr2 : RowAt w1 (w.heap.size + 1) 51 [.slice none 0 0] := ((row_at (xs := [.slice none 0 0]) (by simp)).ext (Ext.alloc _ (.cells #[.int .i64 0] 32))).ext hx1
  have hr3 : RowAt w1 (w.heap.size + 1 + 1) 32 [.int .i64 0] := (row_at (xs := [.int .i64 0]) (by simp)).ext hx1
  obtain ⟨p2, f2⟩ := hr2.facts1
  obtain ⟨p3, f3⟩ := hr3.facts1
  have H2 := Lib.hid hr2
  have H3 := Lib.hid hr3
  clear hr2 hr3
  go_wp2_with fail
  have q2 := (RowAt.set_ne (i := 0) (v := .int .i64 160) (H2.out.set 0 (.slice none 0 0)) (show w.heap.size + 1 + 1 ≠ w.heap.size + 1 by omega)).facts1.1
  have q3 := ((RowAt.set_ne (i := 0) (v := .slice none 0 0) H3.out (show w.heap.size + 1 ≠ w.heap.size + 1 + 1 by omega)).set 0 (.int .i64 160)).facts1.1
  refine bodyPost_ret (v := .tuple #[.slice none 0 0, .int .i64 160]) (by simp [results, Try.results25, go_sem, q2, q3]) rfl ⟨rfl, (hx3.setCell (p := ⟨w.heap.size + 1, 0, none⟩) (Nat.le_succ _) _).setCell (p := ⟨w.heap.size + 1 + 1, 0, none⟩) (by show w.heap.size ≤ w.heap.size + 1 + 1; omega) _⟩
end Go.Proofs.Ytogoejlbdbapoaa
