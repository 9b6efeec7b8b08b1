/- laid. -/
import Derived.Test.YtkhmkgobmfhchaaTabE
import Derived.Test.YtkhmkgobmfhchaaMake
import Derived.Deep.RegionWith
namespace Go.Proofs.Ytkhmkgobmfhchaa
open Go.RowKit Go.Shelf Go.Sort
set_option linter.unusedVariables false

set_option maxRecDepth 100000 in
set_option maxHeartbeats 1000000 in
/-- One text is laid: its slot is written. -/
theorem lay_one (T : List ByteArray) (S : List Int) (a : Option Addr) (n c sb : Nat) (m d B k p : Nat) (w : World) (hT : Strs w (.slice a n c) T) (hS : Ints w .i64 (.slice (some ⟨sb, 0, none⟩) m d) S)
    (hm : m ≤ 1048576) (hTs : ∀ s ∈ T, s.size ≤ 9223372036854775807) (hr : ∀ x ∈ S, 0 ≤ x ∧ x ≤ T.length) (hk : k < T.length) (hk2 : k ≤ 1048576) (hp : placeF T S T[k] = p) (hpm : p < m)
    (b0 : w.cell? ⟨B, 0, none⟩ = some (.slice a n c)) (b1 : w.cell? ⟨B, 1, none⟩ = some (.slice (some ⟨sb, 0, none⟩) m d)) (hf : w.frozen? ⟨sb, p, none⟩ = false) :
    Calls Try.prog 35 #[.int .i64 k, .pointer (some ⟨B, 0, none⟩)] w fun e w' => (∃ v, e = .returned v) ∧ ∃ w2, Ext w w2 ∧ w' = w2.setCell ⟨sb, p, none⟩ (.int .i64 (k + 1)) := by
  have hlenT := hT.len
  have hkn : k < n := by omega
  have hlen := Lib.hid hS.len
  obtain ⟨tb, tO, rfl, htk⟩ := hT.atD hk
  rw [getD_at hk] at htk
  have hss := hTs _ (List.getElem_mem hk)
  generalize T[k] = s at htk hp hss
  obtain ⟨_, _, e, hck⟩ := hS.atD (k := p) (by rw [hlen.out]; exact hpm)
  cases e
  generalize S.getD p 0 = x at hck
  have Hp := Lib.hid hp
  have HT := Lib.hid hT
  have HS := Lib.hid hS
  have Hr := Lib.hid hr
  clear hp hT hS hr hTs hlenT
  have cP := calls_quiet (w := w) (v := .int .i64 p) fun w' hx => (place_any T S s _ n c _ m d w' (HT.out.ext hx) (HS.out.ext hx) Hr.out hm hss).mono fun e w'' ⟨he, hx'⟩ => ⟨by rw [he, Hp.out], hx'⟩
  have k0 := cell_regrown b0
  have k1 := cell_regrown b1
  have k2 := cell_regrown htk
  go_enter Try.func35, Try.ntmps35
  go_wp2_with fail
  refine wp_region_tail_ext 13 (by kernel_rfl) (by kernel_rfl) ?_
  simp only [List.take_succ_cons, List.take_zero, List.drop_succ_cons, List.drop_zero]
  repeat (any_goals (first | go_big_quiet_step (exact cP _ _) | quiet_step (exact cP _ _)))
  refine wpQuiet_nil ?_
  intro wq hw'
  have hxq := ext_regrown hw'
  clear hw'
  have hck2 : wq.cell? ⟨sb, p, none⟩ = some (.int .i64 x) := (hxq.cell (p := ⟨sb, p, none⟩) (cell_lt (by simpa using hck))).trans (by simpa using hck)
  have hf2 : wq.frozen? ⟨sb, p, none⟩ = false := (hxq.frozen (p := ⟨sb, p, none⟩) (cell_lt (by simpa using hck))).trans hf
  clear cP k0 k1 k2
  go_wp2
  go_end0
  exact ⟨⟨_, rfl⟩, wq, hxq, rfl⟩

theorem elS : ElT Try.prog 22 9 (.string ⟨#[]⟩) 1 16 := by
  obtain ⟨i, hi⟩ := info_parts (P := Try.prog) (e := 9) (z := .string ⟨#[]⟩) (size := 1) (bytes := 16) (by kernel_rfl)
  exact ⟨Try.underlying22, ⟨i, hi⟩, rfl, by decide⟩
theorem elI : ElT Try.prog 23 3 (.int .i64 0) 1 8 := by
  obtain ⟨i, hi⟩ := info_parts (P := Try.prog) (e := 3) (z := .int .i64 0) (size := 1) (bytes := 8) (by kernel_rfl)
  exact ⟨Try.underlying23, ⟨i, hi⟩, rfl, by decide⟩
theorem make_S (n : Nat) (h : n ≤ 1048576) (w : World) : (Instr.makeSlice 22 (.int .i64 n) (.int .i64 n)).run Try.prog w = .ok (.slice (some ⟨w.heap.size, 0, none⟩) n n) (w.alloc (.cells (List.replicate n (.string ⟨#[]⟩)).toArray 9)) := by
  rw [run_make_el elS n (by omega) (by omega), made_toList _ _ rfl]
theorem make_I (n : Nat) (h : n ≤ 1048576) (w : World) : (Instr.makeSlice 23 (.int .i64 n) (.int .i64 n)).run Try.prog w = .ok (.slice (some ⟨w.heap.size, 0, none⟩) n n) (w.alloc (.cells (List.replicate n (.int .i64 0)).toArray 3)) := by
  rw [run_make_el elI n (by omega) (by omega), made_toList _ _ rfl]

/-- What laid holds: its box, its two rows, the box of its result. -/
structure LaidAt (w0 : World) (n m : Nat) (B g1 g2 : Nat) (X Y : List Value) (w : World) : Prop where
  below : Below w0.heap.size w0 w
  hB : w0.heap.size < B
  h1 : w0.heap.size < g1
  h2 : w0.heap.size < g2
  ne : B ≠ g1 ∧ B ≠ g2 ∧ g1 ≠ g2
  box : RowAt w B 25 [.slice (some ⟨g1, 0, none⟩) n n, .slice (some ⟨g2, 0, none⟩) m m]
  row1 : RowAt w g1 9 X
  row2 : RowAt w g2 3 Y
  res : RowAt w w0.heap.size 25 [.slice none 0 0, .slice none 0 0]

theorem LaidAt.ext {w0 : World} {n m B g1 g2 : Nat} {X Y : List Value} {w w' : World} (h : LaidAt w0 n m B g1 g2 X Y w) (hx : Ext w w') : LaidAt w0 n m B g1 g2 X Y w' :=
  ⟨Below.ext h.below hx h.below.size, h.hB, h.h1, h.h2, h.ne, h.box.ext hx, h.row1.ext hx, h.row2.ext hx, h.res.ext hx⟩
theorem LaidAt.copied {w0 : World} {n m B g1 g2 : Nat} {X Y X' : List Value} {w w' : World} (h : LaidAt w0 n m B g1 g2 X Y w) (hr : RowAt w' g1 9 X') (hg : w.grownBy w' (some g1)) : LaidAt w0 n m B g1 g2 X' Y w' :=
  ⟨h.below.grown hg h.below.size (fun k e => by cases e; exact Nat.le_of_lt h.h1), h.hB, h.h1, h.h2, h.ne, h.box.kept hg (fun e => h.ne.1 (by cases e; rfl)), hr, h.row2.kept hg (fun e => h.ne.2.2 (by cases e; rfl)), h.res.kept hg (fun e => by cases e; exact Nat.lt_irrefl _ h.h1)⟩
theorem LaidAt.set {w0 : World} {n m B g1 g2 : Nat} {X Y : List Value} {w : World} (h : LaidAt w0 n m B g1 g2 X Y w) (p : Nat) (v : Value) : LaidAt w0 n m B g1 g2 X (Y.set p v) (w.setCell ⟨g2, p, none⟩ v) :=
  have hg := grown_set w g2 p v
  ⟨h.below.grown hg h.below.size (fun k e => by cases e; exact Nat.le_of_lt h.h2), h.hB, h.h1, h.h2, h.ne, h.box.kept hg (fun e => h.ne.2.1 (by cases e; rfl)), h.row1.kept hg (fun e => h.ne.2.2 (by cases e; rfl)), h.row2.set p v, h.res.kept hg (fun e => by cases e; exact Nat.lt_irrefl _ h.h2)⟩
theorem str_one (l : List ByteArray) : ∀ x ∈ l.map Value.string, x.oneCell' = true := by
  intro u hu
  obtain ⟨_, _, rfl⟩ := List.mem_map.1 hu
  rfl
/-- A table of rows of its own, from block B on. -/
def TabOwn (B : Nat) (w : World) (v : Value) (T : List ByteArray) (S : List Int) : Prop := ∃ a n c b m d, v = .agg #[.slice a n c, .slice b m d] ∧
  w.ownsRow B 9 1 (.slice a n c) T.length (T.map Value.string) ∧ w.ownsRow B 3 1 (.slice b m d) S.length (S.map (Value.int .i64))
theorem TabOwn.ext {B : Nat} {w w' : World} {v : Value} {T : List ByteArray} {S : List Int} (h : TabOwn B w v T S) (hx : Ext w w') : TabOwn B w' v T S := by
  obtain ⟨a, n, c, b, m, d, rfl, h1, h2⟩ := h
  exact ⟨a, n, c, b, m, d, rfl, own_ext h1 hx, own_ext h2 hx⟩
theorem TabOwn.base {B B' : Nat} {w : World} {v : Value} {T : List ByteArray} {S : List Int} (h : TabOwn B w v T S) (hb : B' ≤ B) : TabOwn B' w v T S := by
  obtain ⟨a, n, c, b, m, d, rfl, h1, h2⟩ := h
  exact ⟨a, n, c, b, m, d, rfl, own_base h1 hb, own_base h2 hb⟩
theorem ownsRow_shape {w : World} {B size n : Nat} {e : TypeId} {a : Option Addr} {m c : Nat} {xs : List Value} (h : w.ownsRow B e size (.slice a m c) n xs) : m = n := by
  rcases h.2 with ⟨h1, h2⟩ | ⟨g, cap, cur, h1, _⟩
  · cases h1; omega
  · cases h1; rfl
/-- What a table reads as. -/
theorem TabOwn.views {B : Nat} {w : World} {v : Value} {T : List ByteArray} {S : List Int} (h : TabOwn B w v T S) : ∃ a n c b m d, v = .agg #[.slice a n c, .slice b m d] ∧ Strs w (.slice a n c) T ∧ Ints w .i64 (.slice b m d) S ∧ n = T.length ∧ m = S.length ∧
    w.ownsRow B 9 1 (.slice a n c) T.length (T.map Value.string) ∧ w.ownsRow B 3 1 (.slice b m d) S.length (S.map (Value.int .i64)) := by
  obtain ⟨a, n, c, b, m, d, rfl, h1, h2⟩ := h
  exact ⟨a, n, c, b, m, d, rfl, Sl.of_own h1, Sl.of_own h2, ownsRow_shape h1, ownsRow_shape h2, h1, h2⟩
theorem LaidAt.own {w0 : World} {n m B g1 g2 : Nat} {T : List ByteArray} {S : List Int} {w : World} (h : LaidAt w0 n m B g1 g2 (T.map Value.string) (S.map (Value.int .i64)) w) (hn : T.length = n) (hm : S.length = m) (h1 : n ≤ maxLen) (h2 : m ≤ maxLen) :
    TabOwn w0.heap.size w (.agg #[.slice (some ⟨g1, 0, none⟩) n n, .slice (some ⟨g2, 0, none⟩) m m]) T S := by
  subst hn hm
  have a1 := h.row1.own (Nat.le_of_lt h.h1) (by simpa using h1)
  have a2 := h.row2.own (Nat.le_of_lt h.h2) (by simpa using h2)
  simp only [List.length_map] at a1 a2
  exact ⟨_, _, _, _, _, _, rfl, a1, a2⟩
theorem LaidAt.done {w0 : World} {n m B g1 g2 : Nat} {T : List ByteArray} {S : List Int} {w : World} (h : LaidAt w0 n m B g1 g2 (T.map Value.string) (S.map (Value.int .i64)) w) (hn : T.length = n) (hm : S.length = m) (h1 : n ≤ maxLen) (h2 : m ≤ maxLen) (u v : Value) :
    TabOwn w0.heap.size ((w.setCell ⟨w0.heap.size, 0, none⟩ u).setCell ⟨w0.heap.size, 1, none⟩ v) (.agg #[.slice (some ⟨g1, 0, none⟩) n n, .slice (some ⟨g2, 0, none⟩) m m]) T S ∧ Ext w0 ((w.setCell ⟨w0.heap.size, 0, none⟩ u).setCell ⟨w0.heap.size, 1, none⟩ v) := by
  subst hn hm
  have hg1 := grown_set w w0.heap.size 0 u
  have hg2 := grown_set (w.setCell ⟨w0.heap.size, 0, none⟩ u) w0.heap.size 1 v
  have n1 : some w0.heap.size ≠ some g1 := fun e => by cases e; exact Nat.lt_irrefl _ h.h1
  have n2 : some w0.heap.size ≠ some g2 := fun e => by cases e; exact Nat.lt_irrefl _ h.h2
  have a1 := ((h.row1.kept hg1 n1).kept hg2 n1).own (Nat.le_of_lt h.h1) (by simpa using h1)
  have a2 := ((h.row2.kept hg1 n2).kept hg2 n2).own (Nat.le_of_lt h.h2) (by simpa using h2)
  simp only [List.length_map] at a1 a2
  have b1 := h.below.grown hg1 h.below.size (fun k e => by cases e; exact Nat.le_refl _)
  exact ⟨⟨_, _, _, _, _, _, rfl, a1, a2⟩, b1.grown hg2 b1.size (fun k e => by cases e; exact Nat.le_refl _)⟩
end Go.Proofs.Ytkhmkgobmfhchaa
