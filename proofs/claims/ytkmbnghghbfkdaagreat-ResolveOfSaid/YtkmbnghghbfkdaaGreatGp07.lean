/- Find and Text. -/
import Derived.Test.YtkmbnghghbfkdaaGreatGp06
import Derived.Test.YtkmbnghghbfkdaaGreatGp01
import Derived.Test.YtkmbnghghbfkdaaGreatGp02
import Derived.Deep.RegionWith
set_option linter.unusedSimpArgs false
set_option linter.unusedVariables false
set_option maxHeartbeats 2000000
set_option maxRecDepth 100000

namespace Go.Proofs.YtkmbnghghbfkdaaGreat
open Go.RowKit Go.Shelf Go.Sort
theorem ret_ib {k : IntKind} {a a' : Int} {b b' : Bool} (h : a = a') (h' : b = b') : Ending.returned (.tuple #[.int k a, .bool b]) = .returned (.tuple #[.int k a', .bool b']) := by rw [h, h']
theorem TabOK.findx {T : List ByteArray} {S : List Int} (h : TabOK T S) (s : ByteArray) : ∃ p : Nat, placeF T S s = p ∧ p < S.length ∧ S.getD p 0 = findF T s + 1 := by
 obtain ⟨p, h1, h2, h3⟩ := h.find s
 refine ⟨p, h1, h2, ?_⟩
 rcases h3 with ⟨h4, h5⟩ | ⟨i, hi, h4, h5⟩
 ·rw [findF_no.2 h5, h4]; rfl
 ·rw [h4, ← h5, findF_distinct h.distinct hi]
set_option maxRecDepth 100000 in
set_option maxHeartbeats 1000000 in
theorem find_no (T : List ByteArray) (S : List Int) (s : ByteArray) (a : Option Addr) (n c : Nat) (b : Option Addr) (m d : Nat) (w : World) (hT : Strs w (.slice a n c) T) (hS : Ints w .i64 (.slice b m d) S)
 (hm : m ≤ 1048576) (hTs : ∀ s ∈ T, s.size ≤ 9223372036854775807) (hno : ¬ TabOK T S) : Calls Tryz.prog 101 #[.agg #[.slice a n c, .slice b m d], .string s] w fun e w' => e = .returned (.tuple #[.int .i64 0, .bool false]) ∧ Ext w w' := by
 have Hno := Lib.hid hno
 have HTs := Lib.hid hTs
 clear hno hTs
 go_enter Tryz.func101, Tryz.ntmps101
 go_upto_region 1 with fail
 have hx1 : Ext w (w.alloc (.cells #[.slice a n c, .slice b m d] 25)) := Ext.alloc _ _
 have b0 : (w.alloc (.cells #[.slice a n c, .slice b m d] 25)).cell? ⟨w.heap.size, 0, none⟩ = some (.slice a n c) := by simp [go_sem]
 have b1 : (w.alloc (.cells #[.slice a n c, .slice b m d] 25)).cell? ⟨w.heap.size, 1, none⟩ = some (.slice b m d) := by simp [go_sem]
 have hT1 := hT.ext hx1
 have hS1 := hS.ext hx1
 generalize (w.alloc (.cells #[.slice a n c, .slice b m d] 25)) = w1 at *
 clear hT hS
 have HS := Lib.hid hS1
 have HT := Lib.hid hT1
 clear hS1 hT1
 go_wp2_with fail
 refine (tcheck_no HT.out HS.out hm HTs.out Hno.out).mono ?_
 rintro e w2 ⟨rfl, hx2⟩
 go_wp2
 go_ret2
 exact ⟨rfl, hx1.trans hx2⟩
set_option maxRecDepth 100000 in
set_option maxHeartbeats 1000000 in
theorem find_yes (T : List ByteArray) (S : List Int) (s : ByteArray) (a : Option Addr) (n c : Nat) (b : Option Addr) (m d : Nat) (w : World) (hT : Strs w (.slice a n c) T) (hS : Ints w .i64 (.slice b m d) S)
 (hm : m ≤ 1048576) (hTs : ∀ s ∈ T, s.size ≤ 9223372036854775807) (hs : s.size ≤ 9223372036854775807) (hok : TabOK T S) : Calls Tryz.prog 101 #[.agg #[.slice a n c, .slice b m d], .string s] w fun e w' => e = .returned (.tuple #[.int .i64 (max (findF T s) 0), .bool (decide (0 ≤ findF T s))]) ∧ Ext w w' := by
 have Hok := Lib.hid hok
 have HTs := Lib.hid hTs
 have hlen := Lib.hid hS.len
 have hfr := findF_range T s
 have hT1k := hok.most
 have hrg : ∀ x ∈ S, 0 ≤ x ∧ x ≤ T.length := hok.laid.range
 have Hrg := Lib.hid hrg
 obtain ⟨p, hp, hpl, hpx⟩ := hok.findx s
 rw [hlen.out] at hpl
 clear hok hTs hrg
 go_enter Tryz.func101, Tryz.ntmps101
 go_upto_region 1 with fail
 have hx1 : Ext w (w.alloc (.cells #[.slice a n c, .slice b m d] 25)) := Ext.alloc _ _
 have b0 : (w.alloc (.cells #[.slice a n c, .slice b m d] 25)).cell? ⟨w.heap.size, 0, none⟩ = some (.slice a n c) := by simp [go_sem]
 have b1 : (w.alloc (.cells #[.slice a n c, .slice b m d] 25)).cell? ⟨w.heap.size, 1, none⟩ = some (.slice b m d) := by simp [go_sem]
 have hT1 := hT.ext hx1
 have hS1 := hS.ext hx1
 generalize (w.alloc (.cells #[.slice a n c, .slice b m d] 25)) = w1 at *
 clear hT hS
 have HS := Lib.hid hS1
 have HT := Lib.hid hT1
 have Hp := Lib.hid hp
 have Hpx := Lib.hid hpx
 clear hS1 hT1 hp hpx
 go_wp2_with fail
 refine (tcheck_yes HT.out HS.out hm HTs.out Hok.out).mono ?_
 rintro e w2 ⟨rfl, hx2⟩
 have HS2 := Lib.hid (HS.out.ext hx2)
 have HT2 := Lib.hid (HT.out.ext hx2)
 have b0 := ext_cell hx2 b0
 have b1 := ext_cell hx2 b1
 obtain ⟨sb, so, rfl, hck⟩ := HS2.out.atD (k := p) (by rw [hlen.out]; exact hpl)
 rw [Hpx.out] at hck
 generalize hfe : findF T s = f at hck hfr
 have Hfe := Lib.hid hfe
 clear hfe
 have hx12 := hx1.trans hx2
 clear hx1 hx2
 have cP := calls_quiet (w := w2) (v := .int .i64 p) fun w' hx => (place_any T S s a n c _ m d w' (HT2.out.ext hx) (HS2.out.ext hx) Hrg.out hm hs).mono fun e w'' ⟨he, hx'⟩ => ⟨by rw [he, Hp.out], hx'⟩
 have k0 := cell_regrown b0
 have k1 := cell_regrown b1
 have k2 := cell_regrown hck
 go_wp2_with fail
 refine wp_region_quiet_below (by kernel_rfl) (by kernel_rfl) ?_
 repeat (any_goals (first | go_big_quiet_step (exact cP _ _) | quiet_step (exact cP _ _)))
 refine wpQuiet_nil ?_
 intro wq hw'
 have hxq := ext_regrown hw'
 clear hw'
 clear cP k0 k1 k2
 go_wp2
 all_goals
  go_ret2
  exact ⟨ret_ib (by rw [Hfe.out]; omega) (by rw [Hfe.out, decide_eq_decide]; omega), hx12.trans hxq⟩
def textF (T : List ByteArray) (q : Int) : Value := if 0 ≤ q ∧ q < T.length then .tuple #[.string (T.getD q.toNat ⟨#[]⟩), .int .i64 0] else .tuple #[.string ⟨#[]⟩, .int .i64 4]
set_option maxRecDepth 100000 in
set_option maxHeartbeats 1000000 in
theorem text_yes (T : List ByteArray) (S : List Int) (q : Int) (a : Option Addr) (n c : Nat) (b : Option Addr) (m d : Nat) (w : World) (hT : Strs w (.slice a n c) T) (hS : Ints w .i64 (.slice b m d) S)
 (hm : m ≤ 1048576) (hTs : ∀ s ∈ T, s.size ≤ 9223372036854775807) (hok : TabOK T S) : Calls Tryz.prog 156 #[.agg #[.slice a n c, .slice b m d], .int .i64 q] w fun e w' => e = .returned (textF T q) ∧ Ext w w' := by
 have Hok := Lib.hid hok
 have HTs := Lib.hid hTs
 have hlenT := Lib.hid hT.len
 clear hok hTs
 go_enter Tryz.func156, Tryz.ntmps156
 go_upto_region 1 with fail
 have hx1 : Ext w (w.alloc (.cells #[.slice a n c, .slice b m d] 25)) := Ext.alloc _ _
 have b0 : (w.alloc (.cells #[.slice a n c, .slice b m d] 25)).cell? ⟨w.heap.size, 0, none⟩ = some (.slice a n c) := by simp [go_sem]
 have b1 : (w.alloc (.cells #[.slice a n c, .slice b m d] 25)).cell? ⟨w.heap.size, 1, none⟩ = some (.slice b m d) := by simp [go_sem]
 have hT1 := hT.ext hx1
 have hS1 := hS.ext hx1
 generalize (w.alloc (.cells #[.slice a n c, .slice b m d] 25)) = w1 at *
 clear hT hS
 have HS := Lib.hid hS1
 have HT := Lib.hid hT1
 clear hS1 hT1
 go_wp2_with fail
 refine (tcheck_yes HT.out HS.out hm HTs.out Hok.out).mono ?_
 rintro e w2 ⟨rfl, hx2⟩
 have b0 := ext_cell hx2 b0
 have b1 := ext_cell hx2 b1
 have HT2 := Lib.hid (HT.out.ext hx2)
 by_cases h0 : 0 ≤ q
 ·by_cases h1 : q < n
  ·obtain ⟨qn, rfl⟩ := Int.eq_ofNat_of_zero_le h0
   obtain ⟨tb, tO, rfl, htk⟩ := HT2.out.atD (k := qn) (by have := hlenT.out; omega)
   go_wp2
   go_ret2
   refine ⟨?_, hx1.trans hx2⟩
   unfold textF
   rw [if_pos ⟨h0, by have := hlenT.out; omega⟩]
   rfl
  ·go_wp2
   go_ret2
   refine ⟨?_, hx1.trans hx2⟩
   unfold textF
   rw [if_neg (by have := hlenT.out; omega)]
   rfl
 ·go_wp2
  go_ret2
  refine ⟨?_, hx1.trans hx2⟩
  unfold textF
  rw [if_neg (by omega)]
  rfl
end Go.Proofs.YtkmbnghghbfkdaaGreat

/- laid. -/
namespace Go.Proofs.YtkmbnghghbfkdaaGreat
open Go.RowKit Go.Shelf Go.Sort
set_option maxRecDepth 100000 in
set_option maxHeartbeats 1000000 in
theorem lay_one (T : List ByteArray) (S : List Int) (a : Option Addr) (n c sb : Nat) (m d B k p : Nat) (w : World) (hT : Strs w (.slice a n c) T) (hS : Ints w .i64 (.slice (some ⟨sb, 0, none⟩) m d) S)
 (hm : m ≤ 1048576) (hTs : ∀ s ∈ T, s.size ≤ 9223372036854775807) (hr : ∀ x ∈ S, 0 ≤ x ∧ x ≤ T.length) (hk : k < T.length) (hk2 : k ≤ 1048576) (hp : placeF T S T[k] = p) (hpm : p < m)
 (b0 : w.cell? ⟨B, 0, none⟩ = some (.slice a n c)) (b1 : w.cell? ⟨B, 1, none⟩ = some (.slice (some ⟨sb, 0, none⟩) m d)) (hf : w.frozen? ⟨sb, p, none⟩ = false) :
 Calls Tryz.prog 143 #[.int .i64 k, .pointer (some ⟨B, 0, none⟩)] w fun e w' => (∃ v, e = .returned v) ∧ ∃ w2, Ext w w2 ∧ w' = w2.setCell ⟨sb, p, none⟩ (.int .i64 (k + 1)) := by
 have hlenT := hT.len
 have hkn : k < n := by omega
 have hlen := Lib.hid hS.len
 obtain ⟨tb, tO, rfl, htk⟩ := hT.atD hk
 rw [getD_at hk] at htk
 have hss := hTs _ (List.getElem_mem hk)
 generalize T[k] = s at htk hp hss
 obtain ⟨_, _, e, hck⟩ := hS.atD (k := p) (by rw [hlen.out]; exact hpm)
 cases e
 generalize S.getD p 0 = x at hck
 have Hp := Lib.hid hp
 have HT := Lib.hid hT
 have HS := Lib.hid hS
 have Hr := Lib.hid hr
 clear hp hT hS hr hTs hlenT
 have cP := calls_quiet (w := w) (v := .int .i64 p) fun w' hx => (place_any T S s _ n c _ m d w' (HT.out.ext hx) (HS.out.ext hx) Hr.out hm hss).mono fun e w'' ⟨he, hx'⟩ => ⟨by rw [he, Hp.out], hx'⟩
 have k0 := cell_regrown b0
 have k1 := cell_regrown b1
 have k2 := cell_regrown htk
 go_enter Tryz.func143, Tryz.ntmps143
 go_wp2_with fail
 refine wp_region_tail_ext 13 (by kernel_rfl) (by kernel_rfl) ?_
 simp only [List.take_succ_cons, List.take_zero, List.drop_succ_cons, List.drop_zero]
 repeat (any_goals (first | go_big_quiet_step (exact cP _ _) | quiet_step (exact cP _ _)))
 refine wpQuiet_nil ?_
 intro wq hw'
 have hxq := ext_regrown hw'
 clear hw'
 have hck2 : wq.cell? ⟨sb, p, none⟩ = some (.int .i64 x) := (hxq.cell (p := ⟨sb, p, none⟩) (cell_lt (by simpa using hck))).trans (by simpa using hck)
 have hf2 : wq.frozen? ⟨sb, p, none⟩ = false := (hxq.frozen (p := ⟨sb, p, none⟩) (cell_lt (by simpa using hck))).trans hf
 clear cP k0 k1 k2
 go_wp2
 go_end0
 exact ⟨⟨_, rfl⟩, wq, hxq, rfl⟩
theorem elS : ElT Tryz.prog 22 9 (.string ⟨#[]⟩) 1 16 := by
 obtain ⟨i, hi⟩ := info_parts (P := Tryz.prog) (e := 9) (z := .string ⟨#[]⟩) (size := 1) (bytes := 16) (by kernel_rfl)
 exact ⟨Tryz.underlying22, ⟨i, hi⟩, rfl, by decide⟩
theorem elI : ElT Tryz.prog 23 3 (.int .i64 0) 1 8 := by
 obtain ⟨i, hi⟩ := info_parts (P := Tryz.prog) (e := 3) (z := .int .i64 0) (size := 1) (bytes := 8) (by kernel_rfl)
 exact ⟨Tryz.underlying23, ⟨i, hi⟩, rfl, by decide⟩
theorem make_S (n : Nat) (h : n ≤ 1048576) (w : World) : (Instr.makeSlice 22 (.int .i64 n) (.int .i64 n)).run Tryz.prog w = .ok (.slice (some ⟨w.heap.size, 0, none⟩) n n) (w.alloc (.cells (List.replicate n (.string ⟨#[]⟩)).toArray 9)) := by
 rw [run_make_el elS n (by omega) (by omega), made_toList _ _ rfl]
theorem make_I (n : Nat) (h : n ≤ 1048576) (w : World) : (Instr.makeSlice 23 (.int .i64 n) (.int .i64 n)).run Tryz.prog w = .ok (.slice (some ⟨w.heap.size, 0, none⟩) n n) (w.alloc (.cells (List.replicate n (.int .i64 0)).toArray 3)) := by
 rw [run_make_el elI n (by omega) (by omega), made_toList _ _ rfl]
structure LaidAt (w0 : World) (n m : Nat) (B g1 g2 : Nat) (X Y : List Value) (w : World) : Prop where
 below : Below w0.heap.size w0 w
 hB : w0.heap.size < B
 h1 : w0.heap.size < g1
 h2 : w0.heap.size < g2
 ne : B ≠ g1 ∧ B ≠ g2 ∧ g1 ≠ g2
 box : RowAt w B 25 [.slice (some ⟨g1, 0, none⟩) n n, .slice (some ⟨g2, 0, none⟩) m m]
 row1 : RowAt w g1 9 X
 row2 : RowAt w g2 3 Y
 res : RowAt w w0.heap.size 25 [.slice none 0 0, .slice none 0 0]
theorem LaidAt.ext {w0 : World} {n m B g1 g2 : Nat} {X Y : List Value} {w w' : World} (h : LaidAt w0 n m B g1 g2 X Y w) (hx : Ext w w') : LaidAt w0 n m B g1 g2 X Y w' :=
 ⟨Below.ext h.below hx h.below.size, h.hB, h.h1, h.h2, h.ne, h.box.ext hx, h.row1.ext hx, h.row2.ext hx, h.res.ext hx⟩
theorem LaidAt.copied {w0 : World} {n m B g1 g2 : Nat} {X Y X' : List Value} {w w' : World} (h : LaidAt w0 n m B g1 g2 X Y w) (hr : RowAt w' g1 9 X') (hg : w.grownBy w' (some g1)) : LaidAt w0 n m B g1 g2 X' Y w' :=
 ⟨h.below.grown hg h.below.size (fun k e => by cases e; exact Nat.le_of_lt h.h1), h.hB, h.h1, h.h2, h.ne, h.box.kept hg (fun e => h.ne.1 (by cases e; rfl)), hr, h.row2.kept hg (fun e => h.ne.2.2 (by cases e; rfl)), h.res.kept hg (fun e => by cases e; exact Nat.lt_irrefl _ h.h1)⟩
theorem LaidAt.set {w0 : World} {n m B g1 g2 : Nat} {X Y : List Value} {w : World} (h : LaidAt w0 n m B g1 g2 X Y w) (p : Nat) (v : Value) : LaidAt w0 n m B g1 g2 X (Y.set p v) (w.setCell ⟨g2, p, none⟩ v) :=
 have hg := grown_set w g2 p v
 ⟨h.below.grown hg h.below.size (fun k e => by cases e; exact Nat.le_of_lt h.h2), h.hB, h.h1, h.h2, h.ne, h.box.kept hg (fun e => h.ne.2.1 (by cases e; rfl)), h.row1.kept hg (fun e => h.ne.2.2 (by cases e; rfl)), h.row2.set p v, h.res.kept hg (fun e => by cases e; exact Nat.lt_irrefl _ h.h2)⟩
theorem str_one (l : List ByteArray) : ∀ x ∈ l.map Value.string, x.oneCell' = true := by
 intro u hu
 obtain ⟨_, _, rfl⟩ := List.mem_map.1 hu
 rfl
def TabOwn (B : Nat) (w : World) (v : Value) (T : List ByteArray) (S : List Int) : Prop := ∃ a n c b m d, v = .agg #[.slice a n c, .slice b m d] ∧
 w.ownsRow B 9 1 (.slice a n c) T.length (T.map Value.string) ∧ w.ownsRow B 3 1 (.slice b m d) S.length (S.map (Value.int .i64))
theorem TabOwn.ext {B : Nat} {w w' : World} {v : Value} {T : List ByteArray} {S : List Int} (h : TabOwn B w v T S) (hx : Ext w w') : TabOwn B w' v T S := by
 obtain ⟨a, n, c, b, m, d, rfl, h1, h2⟩ := h
 exact ⟨a, n, c, b, m, d, rfl, own_ext h1 hx, own_ext h2 hx⟩
theorem TabOwn.base {B B' : Nat} {w : World} {v : Value} {T : List ByteArray} {S : List Int} (h : TabOwn B w v T S) (hb : B' ≤ B) : TabOwn B' w v T S := by
 obtain ⟨a, n, c, b, m, d, rfl, h1, h2⟩ := h
 exact ⟨a, n, c, b, m, d, rfl, own_base h1 hb, own_base h2 hb⟩
theorem ownsRow_shape {w : World} {B size n : Nat} {e : TypeId} {a : Option Addr} {m c : Nat} {xs : List Value} (h : w.ownsRow B e size (.slice a m c) n xs) : m = n := by
 rcases h.2 with ⟨h1, h2⟩ | ⟨g, cap, cur, h1, _⟩
 ·cases h1; omega
 ·cases h1; rfl
theorem LaidAt.done {w0 : World} {n m B g1 g2 : Nat} {T : List ByteArray} {S : List Int} {w : World} (h : LaidAt w0 n m B g1 g2 (T.map Value.string) (S.map (Value.int .i64)) w) (hn : T.length = n) (hm : S.length = m) (h1 : n ≤ maxLen) (h2 : m ≤ maxLen) (u v : Value) :
 TabOwn w0.heap.size ((w.setCell ⟨w0.heap.size, 0, none⟩ u).setCell ⟨w0.heap.size, 1, none⟩ v) (.agg #[.slice (some ⟨g1, 0, none⟩) n n, .slice (some ⟨g2, 0, none⟩) m m]) T S ∧ Ext w0 ((w.setCell ⟨w0.heap.size, 0, none⟩ u).setCell ⟨w0.heap.size, 1, none⟩ v) := by
 subst hn hm
 have hg1 := grown_set w w0.heap.size 0 u
 have hg2 := grown_set (w.setCell ⟨w0.heap.size, 0, none⟩ u) w0.heap.size 1 v
 have n1 : some w0.heap.size ≠ some g1 := fun e => by cases e; exact Nat.lt_irrefl _ h.h1
 have n2 : some w0.heap.size ≠ some g2 := fun e => by cases e; exact Nat.lt_irrefl _ h.h2
 have a1 := ((h.row1.kept hg1 n1).kept hg2 n1).own (Nat.le_of_lt h.h1) (by simpa using h1)
 have a2 := ((h.row2.kept hg1 n2).kept hg2 n2).own (Nat.le_of_lt h.h2) (by simpa using h2)
 simp only [List.length_map] at a1 a2
 have b1 := h.below.grown hg1 h.below.size (fun k e => by cases e; exact Nat.le_refl _)
 exact ⟨⟨_, _, _, _, _, _, rfl, a1, a2⟩, b1.grown hg2 b1.size (fun k e => by cases e; exact Nat.le_refl _)⟩
end Go.Proofs.YtkmbnghghbfkdaaGreat

/- laid: the walk. -/
namespace Go.Proofs.YtkmbnghghbfkdaaGreat
open Go.RowKit Go.Shelf Go.Sort
set_option maxRecDepth 100000 in
set_option maxHeartbeats 1000000 in
theorem laid_any (T : List ByteArray) (a : Option Addr) (n c m : Nat) (w : World) (hT : Strs w (.slice a n c) T) (hm : m ≤ 1048576) (hn : n < m) (hn2 : n ≤ 1024)
 (hTs : ∀ s ∈ T, s.size ≤ 9223372036854775807) (hd : Distinct T) :
 Calls Tryz.prog 133 #[.slice a n c, .int .i64 m] w fun e w' => ∃ v, e = .returned v ∧ TabOwn w.heap.size w' v T (laidN T m n) ∧ Ext w w' := by
 have HT := Lib.hid hT
 have HTs := Lib.hid hTs
 have Hd := Lib.hid hd
 have hmS := make_S n (by omega)
 have hmI := make_I m (by omega)
 clear hT hTs hd
 go_enter Tryz.func133, Tryz.ntmps133
 go_upto_region 1 with fail
 go_cut [5] (fun s5 wx => ∃ B g1 g2, s5 = .pointer (some ⟨B, 0, none⟩) ∧ LaidAt w n m B g1 g2 (List.replicate n (.string ⟨#[]⟩)) (List.replicate m (.int .i64 0)) wx)
 case first =>
  go_region_with (fail)
  all_goals (go_wp2_with fail; go_meet)
  all_goals
   first
   | (refine ⟨_, w.heap.size + 1, w.heap.size + 1 + 1, rfl, below_drewN ((((((Below.refl _ _).alloc (Nat.le_refl _) _).alloc (by simp) _).alloc (by simp; omega) _).alloc (by simp; omega) _)) 1, ?_, ?_, ?_, ?_, ?_, ?_, ?_, ?_⟩; all_goals first | omega | exact (row_at (by simp)).ext (Ext.drewN _ 1) | exact ((row_at (by simp)).ext (Ext.alloc _ _)).ext (Ext.drewN _ 1) | exact (((row_at (by simp)).ext (Ext.alloc _ _)).ext (Ext.alloc _ _)).ext (Ext.drewN _ 1) | exact ((((row_at (by simp)).ext (Ext.alloc _ _)).ext (Ext.alloc _ _)).ext (Ext.alloc _ _)).ext (Ext.drewN _ 1))
   | (refine ⟨_, w.heap.size + 1, w.heap.size + 1 + 1 + 1, rfl, below_drewN ((((((Below.refl _ _).alloc (Nat.le_refl _) _).alloc (by simp) _).alloc (by simp; omega) _).alloc (by simp; omega) _)) 1, ?_, ?_, ?_, ?_, ?_, ?_, ?_, ?_⟩; all_goals first | omega | exact (row_at (by simp)).ext (Ext.drewN _ 1) | exact ((row_at (by simp)).ext (Ext.alloc _ _)).ext (Ext.drewN _ 1) | exact (((row_at (by simp)).ext (Ext.alloc _ _)).ext (Ext.alloc _ _)).ext (Ext.drewN _ 1) | exact ((((row_at (by simp)).ext (Ext.alloc _ _)).ext (Ext.alloc _ _)).ext (Ext.alloc _ _)).ext (Ext.drewN _ 1))
   | (refine ⟨_, w.heap.size + 1 + 1, w.heap.size + 1, rfl, below_drewN ((((((Below.refl _ _).alloc (Nat.le_refl _) _).alloc (by simp) _).alloc (by simp; omega) _).alloc (by simp; omega) _)) 1, ?_, ?_, ?_, ?_, ?_, ?_, ?_, ?_⟩; all_goals first | omega | exact (row_at (by simp)).ext (Ext.drewN _ 1) | exact ((row_at (by simp)).ext (Ext.alloc _ _)).ext (Ext.drewN _ 1) | exact (((row_at (by simp)).ext (Ext.alloc _ _)).ext (Ext.alloc _ _)).ext (Ext.drewN _ 1) | exact ((((row_at (by simp)).ext (Ext.alloc _ _)).ext (Ext.alloc _ _)).ext (Ext.alloc _ _)).ext (Ext.drewN _ 1))
   | (refine ⟨_, w.heap.size + 1 + 1 + 1, w.heap.size + 1, rfl, below_drewN ((((((Below.refl _ _).alloc (Nat.le_refl _) _).alloc (by simp) _).alloc (by simp; omega) _).alloc (by simp; omega) _)) 1, ?_, ?_, ?_, ?_, ?_, ?_, ?_, ?_⟩; all_goals first | omega | exact (row_at (by simp)).ext (Ext.drewN _ 1) | exact ((row_at (by simp)).ext (Ext.alloc _ _)).ext (Ext.drewN _ 1) | exact (((row_at (by simp)).ext (Ext.alloc _ _)).ext (Ext.alloc _ _)).ext (Ext.drewN _ 1) | exact ((((row_at (by simp)).ext (Ext.alloc _ _)).ext (Ext.alloc _ _)).ext (Ext.alloc _ _)).ext (Ext.drewN _ 1))
   | (refine ⟨_, w.heap.size + 1 + 1, w.heap.size + 1 + 1 + 1, rfl, below_drewN ((((((Below.refl _ _).alloc (Nat.le_refl _) _).alloc (by simp) _).alloc (by simp; omega) _).alloc (by simp; omega) _)) 1, ?_, ?_, ?_, ?_, ?_, ?_, ?_, ?_⟩; all_goals first | omega | exact (row_at (by simp)).ext (Ext.drewN _ 1) | exact ((row_at (by simp)).ext (Ext.alloc _ _)).ext (Ext.drewN _ 1) | exact (((row_at (by simp)).ext (Ext.alloc _ _)).ext (Ext.alloc _ _)).ext (Ext.drewN _ 1) | exact ((((row_at (by simp)).ext (Ext.alloc _ _)).ext (Ext.alloc _ _)).ext (Ext.alloc _ _)).ext (Ext.drewN _ 1))
   | (refine ⟨_, w.heap.size + 1 + 1 + 1, w.heap.size + 1 + 1, rfl, below_drewN ((((((Below.refl _ _).alloc (Nat.le_refl _) _).alloc (by simp) _).alloc (by simp; omega) _).alloc (by simp; omega) _)) 1, ?_, ?_, ?_, ?_, ?_, ?_, ?_, ?_⟩; all_goals first | omega | exact (row_at (by simp)).ext (Ext.drewN _ 1) | exact ((row_at (by simp)).ext (Ext.alloc _ _)).ext (Ext.drewN _ 1) | exact (((row_at (by simp)).ext (Ext.alloc _ _)).ext (Ext.alloc _ _)).ext (Ext.drewN _ 1) | exact ((((row_at (by simp)).ext (Ext.alloc _ _)).ext (Ext.alloc _ _)).ext (Ext.alloc _ _)).ext (Ext.drewN _ 1))
 case rest =>
  obtain ⟨B, g1, g2, rfl, hL⟩ := hcut
  have HT2 := Lib.hid (Strs.ext HT.out hL.below)
  have b0 := hL.box.cell (i := 0) rfl
  have b1 := hL.box.cell (i := 1) rfl
  have hlenT := HT.out.len
  obtain ⟨wd, hcp, hrw, hgw⟩ := run_copy_onto (P := Tryz.prog) 22 22 3 elS (n := n) (g := g1) (cap := n) (u := .slice a n c) (xs := T.map Value.string) (show Sl wc (.slice a n c) n _ from by have h := HT2.out; unfold Strs at h; rw [hlenT] at h; exact h) (by simpa using hlenT) (str_one _) hL.row1 (by simp)
  have hL2 := hL.copied hrw hgw
  rw [show (List.replicate m (Value.int .i64 0)) = (laidN T m 0).map (Value.int .i64) from by simp [laidN]] at hL2
  have HL2 := Lib.hid hL2
  have HlenT := Lib.hid hlenT
  clear hrw hgw HT2 hL hL2 hlenT hmS hmI
  go_wp2_with fail
  clear hcp b0 b1
  go_loopg [7, 21] n (fun g _ i wr => ∃ k : Nat, k ≤ n ∧ g = n - k ∧ i = .int .i64 k ∧ LaidAt w n m B g1 g2 (T.map Value.string) ((laidN T m k).map (Value.int .i64)) wr)
  case atStart => exact ⟨0, Nat.zero_le _, rfl, rfl, HL2.out⟩
  case round =>
   obtain ⟨k, hk, hg, rfl, hL⟩ := hrel
   have hlenT := HlenT.out
   have Hg := Lib.hid hg
   have HL := Lib.hid hL
   clear hg
   by_cases hlt : k < n
   ·obtain ⟨p, hp, hpm, hp0, hnext⟩ := laidN_next T m k Hd.out (by omega) (by omega)
    have hlay := laidN_ok T m k Hd.out (by omega) (by omega)
    have hl := laidN_len T m k
    have hone := lay_one T (laidN T m k) (some ⟨g1, 0, none⟩) n n g2 m m B k p wr
     (show Strs wr _ T from by have := hL.row1.sl n n (Nat.le_refl _) (by unfold maxLen; omega); unfold Strs; rw [hlenT]; exact this)
     (show Ints wr .i64 _ (laidN T m k) from by have := hL.row2.sl m m (Nat.le_refl _) (by unfold maxLen; omega); unfold Ints; rw [hl]; exact this)
     (by omega) HTs.out (fun x hx => by have := hlay.range x hx; omega) (by omega) (by omega) hp hpm (hL.box.cell rfl) (hL.box.cell rfl) (hL.row2.frozen p)
    have Hone := Lib.hid hone
    have Hnext := Lib.hid hnext
    clear hL hp hp0 hnext hlay hl hone hlenT
    go_wp2_with fail
    refine Hone.out.mono ?_
    rintro e w3 ⟨⟨v, rfl⟩, w2, hx2, rfl⟩
    have hL3 := (HL.out.ext hx2).set p (.int .i64 ((k : Int) + 1))
    rw [← List.map_set, ← Hnext.out] at hL3
    have HL3 := Lib.hid hL3
    clear hL3
    go_wp2_with fail
    go_roundg (n - (k + 1))
    case measure => have := Hg.out; omega
    case rel => exact ⟨k + 1, by omega, rfl, by go_num, HL3.out⟩
   ·obtain rfl : k = n := by omega
    have b0 := hL.box.cell (i := 0) rfl
    have b1 := hL.box.cell (i := 1) rfl
    have r0 := hL.res.cell (i := 0) rfl
    have r1 := hL.res.cell (i := 1) rfl
    have f0 := hL.res.frozen 0
    have f1 := hL.res.frozen 1
    clear hL hlenT hlt
    go_wp2
    exact bodyPost_ret (v := .agg #[.slice (some ⟨g1, 0, none⟩) k k, .slice (some ⟨g2, 0, none⟩) m m]) (by simp [results, Tryz.results133, go_sem, r0, r1]) rfl ⟨_, rfl, HL.out.done HlenT.out (laidN_len _ _ _) (by unfold maxLen; omega) (by unfold maxLen; omega) _ _⟩
end Go.Proofs.YtkmbnghghbfkdaaGreat

/- Clones, and the rows held against one another. -/
namespace Go.Proofs.YtkmbnghghbfkdaaGreat
open Go.RowKit Go.Shelf Go.Sort
theorem eqNil_cloneS0 (a : Option Addr) (n c n' c' : Nat) (w : World) : (binOp .eql 22 (.slice a n c) (.slice none n' c')).run Tryz.prog w = .ok (.bool a.isNone) w :=
 Lib.run_eql_slice_nil w _ _ a n c n' c' Tryz.underlying22
set_option maxHeartbeats 400000 in
theorem cloneS0 (v : Value) (n : Nat) (xs : List Value) (w : World) (hv : Sl w v n xs) (hl : xs.length = n) (h1 : ∀ x ∈ xs, x.oneCell' = true) (hn : n ≤ 1048576) :
 Calls Tryz.prog 36 #[v] w fun e w' => ∃ u, e = .returned u ∧ w'.ownsRow w.heap.size 9 1 u n xs ∧ Ext w w' := by
 have hv' := hv
 obtain ⟨a, cap, rfl, hcap, hmax, hc⟩ := hv'.open_
 have hq := eqNil_cloneS0
 have H1 := Lib.hid h1
 have HL := Lib.hid hl
 cases a with
 | none =>
  have hl' : xs = [] := List.eq_nil_of_length_eq_zero (by rcases Nat.eq_zero_or_pos xs.length with h | h; exact h; obtain ⟨_, _, h, _⟩ := hc 0 h; cases h)
  clear hv' hc
  subst hl'
  obtain rfl : n = 0 := by simpa using hl.symm
  clear h1 hl
  go_enter Tryz.func36, Tryz.ntmps36
  go_wp2
  go_ret
  exact ⟨_, rfl, World.ownsRow_nil _ _ _ _, Ext.refl _⟩
 | some ad =>
  have HV := Lib.hid hv
  clear hv' hc h1 hl hv
  go_enter Tryz.func36, Tryz.ntmps36
  go_wp2_with (at_builtin; refine wpList_append_sl _ rfl _ _ _ rfl elS rfl (own_new w w.heap.size #[] 9 1 0 (Nat.le_refl _) rfl (Nat.zero_le _)) rfl (HV.out.ext (Ext.alloc _ _)) ?_ H1.out ?_ ?_ ?_ ?_)
  ·rw [HL.out, Nat.mul_one]
  ·omega
  ·unfold maxLen; omega
  ·simp
  intro v1 w1 hown hb _ _
  go_wp2
  go_ret
  exact ⟨_, rfl, by simpa using hown, Below.trans (Ext.alloc w _) hb⟩
theorem eqNil_cloneI0 (a : Option Addr) (n c n' c' : Nat) (w : World) : (binOp .eql 23 (.slice a n c) (.slice none n' c')).run Tryz.prog w = .ok (.bool a.isNone) w :=
 Lib.run_eql_slice_nil w _ _ a n c n' c' Tryz.underlying23
set_option maxHeartbeats 400000 in
theorem cloneI0 (v : Value) (n : Nat) (xs : List Value) (w : World) (hv : Sl w v n xs) (hl : xs.length = n) (h1 : ∀ x ∈ xs, x.oneCell' = true) (hn : n ≤ 1048576) :
 Calls Tryz.prog 37 #[v] w fun e w' => ∃ u, e = .returned u ∧ w'.ownsRow w.heap.size 3 1 u n xs ∧ Ext w w' := by
 have hv' := hv
 obtain ⟨a, cap, rfl, hcap, hmax, hc⟩ := hv'.open_
 have hq := eqNil_cloneI0
 have H1 := Lib.hid h1
 have HL := Lib.hid hl
 cases a with
 | none =>
  have hl' : xs = [] := List.eq_nil_of_length_eq_zero (by rcases Nat.eq_zero_or_pos xs.length with h | h; exact h; obtain ⟨_, _, h, _⟩ := hc 0 h; cases h)
  clear hv' hc
  subst hl'
  obtain rfl : n = 0 := by simpa using hl.symm
  clear h1 hl
  go_enter Tryz.func37, Tryz.ntmps37
  go_wp2
  go_ret
  exact ⟨_, rfl, World.ownsRow_nil _ _ _ _, Ext.refl _⟩
 | some ad =>
  have HV := Lib.hid hv
  clear hv' hc h1 hl hv
  go_enter Tryz.func37, Tryz.ntmps37
  go_wp2_with (at_builtin; refine wpList_append_sl _ rfl _ _ _ rfl elI rfl (own_new w w.heap.size #[] 3 1 0 (Nat.le_refl _) rfl (Nat.zero_le _)) rfl (HV.out.ext (Ext.alloc _ _)) ?_ H1.out ?_ ?_ ?_ ?_)
  ·rw [HL.out, Nat.mul_one]
  ·omega
  ·unfold maxLen; omega
  ·simp
  intro v1 w1 hown hb _ _
  go_wp2
  go_ret
  exact ⟨_, rfl, by simpa using hown, Below.trans (Ext.alloc w _) hb⟩
theorem own_sl {w : World} {B size n : Nat} {e : TypeId} {v : Value} {xs : List Value} (h : w.ownsRow B e size v n xs) : ∃ a c, v = .slice a n c := by
 rcases h.2 with ⟨h1, h2⟩ | ⟨g, cap, cur, h1, _⟩
 ·exact ⟨none, 0, by rw [h1, h2]⟩
 ·exact ⟨_, _, h1⟩
theorem cloneS (v : Value) (T : List ByteArray) (w : World) (hT : Strs w v T) (hn : T.length ≤ 1048576) :
 Calls Tryz.prog 36 #[v] w fun e w' => ∃ a c, e = .returned (.slice a T.length c) ∧ w'.ownsRow w.heap.size 9 1 (.slice a T.length c) T.length (T.map Value.string) ∧ Ext w w' :=
 (cloneS0 v T.length _ w hT (by simp) (str_one _) hn).mono fun e w' ⟨u, he, ho, hx⟩ => by obtain ⟨a, c, rfl⟩ := own_sl ho; exact ⟨a, c, he, ho, hx⟩
theorem cloneI (v : Value) (S : List Int) (w : World) (hS : Ints w .i64 v S) (hn : S.length ≤ 1048576) :
 Calls Tryz.prog 37 #[v] w fun e w' => ∃ a c, e = .returned (.slice a S.length c) ∧ w'.ownsRow w.heap.size 3 1 (.slice a S.length c) S.length (S.map (Value.int .i64)) ∧ Ext w w' :=
 (cloneI0 v S.length _ w hS (by simp) (ints_one _ _) hn).mono fun e w' ⟨u, he, ho, hx⟩ => by obtain ⟨a, c, rfl⟩ := own_sl ho; exact ⟨a, c, he, ho, hx⟩
end Go.Proofs.YtkmbnghghbfkdaaGreat

/- own, cut, small, same; Equal. -/
namespace Go.Proofs.YtkmbnghghbfkdaaGreat
open Go.RowKit Go.Shelf Go.Sort
theorem own_set_other {w : World} {B size n : Nat} {e : TypeId} {v : Value} {xs : List Value} (h : w.ownsRow B e size v n xs) {g : Nat} (hg : g < B) (i : Nat) (u : Value) : (w.setCell ⟨g, i, none⟩ u).ownsRow B e size v n xs := by
 refine ⟨h.1, ?_⟩
 rcases h.2 with hn | ⟨k, cap, cur, rfl, hbg, hgg, rest⟩
 ·exact .inl hn
 ·exact .inr ⟨k, cap, cur, rfl, hbg, ((grown_set w g i u).block k (Array.getElem?_eq_some_iff.1 hgg).1 (fun e => by cases e; omega)).trans hgg, rest⟩
theorem tabOwn_end {w0 w1 wa wb : World} {T : List ByteArray} {S : List Int} {ua ub : Option Addr} {ca cb g : Nat} {k : Nat} (ha : wa.ownsRow (w1.drewN k).heap.size 9 1 (.slice ua T.length ca) T.length (T.map Value.string)) (hxb : Ext wa wb)
 (hb : wb.ownsRow wa.heap.size 3 1 (.slice ub S.length cb) S.length (S.map (Value.int .i64))) (h0 : w0.heap.size ≤ w1.heap.size) (hg : g < w1.heap.size) (h1 : (w1.drewN k).heap.size ≤ wa.heap.size) (h2 : w0.heap.size ≤ g) (u v : Value) :
 TabOwn w0.heap.size ((wb.setCell ⟨g, 0, none⟩ u).setCell ⟨g, 1, none⟩ v) (.agg #[.slice ua T.length ca, .slice ub S.length cb]) T S :=
 ⟨_, _, _, _, _, _, rfl, own_base (own_set_other (own_set_other (own_ext ha hxb) hg 0 u) hg 1 v) h0, own_base (own_set_other (own_set_other hb (Nat.lt_of_lt_of_le hg h1) 0 u) (Nat.lt_of_lt_of_le hg h1) 1 v) (Nat.le_trans h0 h1)⟩
end Go.Proofs.YtkmbnghghbfkdaaGreat
