/- Find and Text. -/
import Derived.Test.YtkhmkgobmfhchaaTabD
import Derived.Test.YtkhmkgobmfhchaaTail
namespace Go.Proofs.Ytkhmkgobmfhchaa
open Go.RowKit Go.Shelf Go.Sort

theorem ret_ib {k : IntKind} {a a' : Int} {b b' : Bool} (h : a = a') (h' : b = b') : Ending.returned (.tuple #[.int k a, .bool b]) = .returned (.tuple #[.int k a', .bool b']) := by rw [h, h']
theorem TabOK.findx {T : List ByteArray} {S : List Int} (h : TabOK T S) (s : ByteArray) : ∃ p : Nat, placeF T S s = p ∧ p < S.length ∧ S.getD p 0 = findF T s + 1 := by
  obtain ⟨p, h1, h2, h3⟩ := h.find s
  refine ⟨p, h1, h2, ?_⟩
  rcases h3 with ⟨h4, h5⟩ | ⟨i, hi, h4, h5⟩
  · rw [findF_no.2 h5, h4]; rfl
  · rw [h4, ← h5, findF_distinct h.distinct hi]

set_option maxRecDepth 100000 in
set_option maxHeartbeats 1000000 in
theorem find_no (T : List ByteArray) (S : List Int) (s : ByteArray) (a : Option Addr) (n c : Nat) (b : Option Addr) (m d : Nat) (w : World) (hT : Strs w (.slice a n c) T) (hS : Ints w .i64 (.slice b m d) S)
    (hm : m ≤ 1048576) (hTs : ∀ s ∈ T, s.size ≤ 9223372036854775807) (hno : ¬ TabOK T S) : Calls Try.prog 14 #[.agg #[.slice a n c, .slice b m d], .string s] w fun e w' => e = .returned (.tuple #[.int .i64 0, .bool false]) ∧ Ext w w' := by
  have Hno := Lib.hid hno
  have HTs := Lib.hid hTs
  clear hno hTs
  go_enter Try.func14, Try.ntmps14
  go_upto_region 1 with fail
  have hx1 : Ext w (w.alloc (.cells #[.slice a n c, .slice b m d] 25)) := Ext.alloc _ _
  have b0 : (w.alloc (.cells #[.slice a n c, .slice b m d] 25)).cell? ⟨w.heap.size, 0, none⟩ = some (.slice a n c) := by simp [go_sem]
  have b1 : (w.alloc (.cells #[.slice a n c, .slice b m d] 25)).cell? ⟨w.heap.size, 1, none⟩ = some (.slice b m d) := by simp [go_sem]
  have hT1 := hT.ext hx1
  have hS1 := hS.ext hx1
  generalize (w.alloc (.cells #[.slice a n c, .slice b m d] 25)) = w1 at *
  clear hT hS
  have HS := Lib.hid hS1
  have HT := Lib.hid hT1
  clear hS1 hT1
  go_wp2_with fail
  refine (check_no HT.out HS.out hm HTs.out Hno.out).mono ?_
  rintro e w2 ⟨rfl, hx2⟩
  go_wp2
  go_ret2
  exact ⟨rfl, hx1.trans hx2⟩

set_option maxRecDepth 100000 in
set_option maxHeartbeats 1000000 in
theorem find_yes (T : List ByteArray) (S : List Int) (s : ByteArray) (a : Option Addr) (n c : Nat) (b : Option Addr) (m d : Nat) (w : World) (hT : Strs w (.slice a n c) T) (hS : Ints w .i64 (.slice b m d) S)
    (hm : m ≤ 1048576) (hTs : ∀ s ∈ T, s.size ≤ 9223372036854775807) (hs : s.size ≤ 9223372036854775807) (hok : TabOK T S) : Calls Try.prog 14 #[.agg #[.slice a n c, .slice b m d], .string s] w fun e w' => e = .returned (.tuple #[.int .i64 (max (findF T s) 0), .bool (decide (0 ≤ findF T s))]) ∧ Ext w w' := by
  have Hok := Lib.hid hok
  have HTs := Lib.hid hTs
  have hlen := Lib.hid hS.len
  have hfr := findF_range T s
  have hT1k := hok.most
  have hrg : ∀ x ∈ S, 0 ≤ x ∧ x ≤ T.length := hok.laid.range
  have Hrg := Lib.hid hrg
  obtain ⟨p, hp, hpl, hpx⟩ := hok.findx s
  rw [hlen.out] at hpl
  clear hok hTs hrg
  go_enter Try.func14, Try.ntmps14
  go_upto_region 1 with fail
  have hx1 : Ext w (w.alloc (.cells #[.slice a n c, .slice b m d] 25)) := Ext.alloc _ _
  have b0 : (w.alloc (.cells #[.slice a n c, .slice b m d] 25)).cell? ⟨w.heap.size, 0, none⟩ = some (.slice a n c) := by simp [go_sem]
  have b1 : (w.alloc (.cells #[.slice a n c, .slice b m d] 25)).cell? ⟨w.heap.size, 1, none⟩ = some (.slice b m d) := by simp [go_sem]
  have hT1 := hT.ext hx1
  have hS1 := hS.ext hx1
  generalize (w.alloc (.cells #[.slice a n c, .slice b m d] 25)) = w1 at *
  clear hT hS
  have HS := Lib.hid hS1
  have HT := Lib.hid hT1
  have Hp := Lib.hid hp
  have Hpx := Lib.hid hpx
  clear hS1 hT1 hp hpx
  go_wp2_with fail
  refine (check_yes HT.out HS.out hm HTs.out Hok.out).mono ?_
  rintro e w2 ⟨rfl, hx2⟩
  have HS2 := Lib.hid (HS.out.ext hx2)
  have HT2 := Lib.hid (HT.out.ext hx2)
  have b0 := (hx2.cell (p := ⟨w.heap.size, 0, none⟩) (cell_lt b0)).trans b0
  have b1 := (hx2.cell (p := ⟨w.heap.size, 1, none⟩) (cell_lt b1)).trans b1
  obtain ⟨sb, so, rfl, hck⟩ := HS2.out.atD (k := p) (by rw [hlen.out]; exact hpl)
  rw [Hpx.out] at hck
  generalize hfe : findF T s = f at hck hfr
  have Hfe := Lib.hid hfe
  clear hfe
  have hx12 := hx1.trans hx2
  clear hx1 hx2
  have cP := calls_quiet (w := w2) (v := .int .i64 p) fun w' hx => (place_any T S s a n c _ m d w' (HT2.out.ext hx) (HS2.out.ext hx) Hrg.out hm hs).mono fun e w'' ⟨he, hx'⟩ => ⟨by rw [he, Hp.out], hx'⟩
  have k0 := cell_regrown b0
  have k1 := cell_regrown b1
  have k2 := cell_regrown hck
  go_wp2_with fail
  refine wp_region_quiet_below (by kernel_rfl) (by kernel_rfl) ?_
  repeat (any_goals (first | go_big_quiet_step (exact cP _ _) | quiet_step (exact cP _ _)))
  refine wpQuiet_nil ?_
  intro wq hw'
  have hxq := ext_regrown hw'
  clear hw'
  clear cP k0 k1 k2
  go_wp2
  all_goals
    go_ret2
    exact ⟨ret_ib (by rw [Hfe.out]; omega) (by rw [Hfe.out, decide_eq_decide]; omega), hx12.trans hxq⟩

def textF (T : List ByteArray) (q : Int) : Value := if 0 ≤ q ∧ q < T.length then .tuple #[.string (T.getD q.toNat ⟨#[]⟩), .int .i64 0] else .tuple #[.string ⟨#[]⟩, .int .i64 4]
set_option maxRecDepth 100000 in
set_option maxHeartbeats 1000000 in
theorem text_no (T : List ByteArray) (S : List Int) (q : Int) (a : Option Addr) (n c : Nat) (b : Option Addr) (m d : Nat) (w : World) (hT : Strs w (.slice a n c) T) (hS : Ints w .i64 (.slice b m d) S)
    (hm : m ≤ 1048576) (hTs : ∀ s ∈ T, s.size ≤ 9223372036854775807) (hno : ¬ TabOK T S) : Calls Try.prog 18 #[.agg #[.slice a n c, .slice b m d], .int .i64 q] w fun e w' => e = .returned (.tuple #[.string ⟨#[]⟩, .int .i64 150]) ∧ Ext w w' := by
  have Hno := Lib.hid hno
  have HTs := Lib.hid hTs
  clear hno hTs
  go_enter Try.func18, Try.ntmps18
  go_upto_region 1 with fail
  have hx1 : Ext w (w.alloc (.cells #[.slice a n c, .slice b m d] 25)) := Ext.alloc _ _
  have b0 : (w.alloc (.cells #[.slice a n c, .slice b m d] 25)).cell? ⟨w.heap.size, 0, none⟩ = some (.slice a n c) := by simp [go_sem]
  have b1 : (w.alloc (.cells #[.slice a n c, .slice b m d] 25)).cell? ⟨w.heap.size, 1, none⟩ = some (.slice b m d) := by simp [go_sem]
  have hT1 := hT.ext hx1
  have hS1 := hS.ext hx1
  generalize (w.alloc (.cells #[.slice a n c, .slice b m d] 25)) = w1 at *
  clear hT hS
  have HS := Lib.hid hS1
  have HT := Lib.hid hT1
  clear hS1 hT1
  go_wp2_with fail
  refine (check_no HT.out HS.out hm HTs.out Hno.out).mono ?_
  rintro e w2 ⟨rfl, hx2⟩
  go_wp2
  go_ret2
  exact ⟨rfl, hx1.trans hx2⟩
set_option maxRecDepth 100000 in
set_option maxHeartbeats 1000000 in
theorem text_yes (T : List ByteArray) (S : List Int) (q : Int) (a : Option Addr) (n c : Nat) (b : Option Addr) (m d : Nat) (w : World) (hT : Strs w (.slice a n c) T) (hS : Ints w .i64 (.slice b m d) S)
    (hm : m ≤ 1048576) (hTs : ∀ s ∈ T, s.size ≤ 9223372036854775807) (hok : TabOK T S) : Calls Try.prog 18 #[.agg #[.slice a n c, .slice b m d], .int .i64 q] w fun e w' => e = .returned (textF T q) ∧ Ext w w' := by
  have Hok := Lib.hid hok
  have HTs := Lib.hid hTs
  have hlenT := Lib.hid hT.len
  clear hok hTs
  go_enter Try.func18, Try.ntmps18
  go_upto_region 1 with fail
  have hx1 : Ext w (w.alloc (.cells #[.slice a n c, .slice b m d] 25)) := Ext.alloc _ _
  have b0 : (w.alloc (.cells #[.slice a n c, .slice b m d] 25)).cell? ⟨w.heap.size, 0, none⟩ = some (.slice a n c) := by simp [go_sem]
  have b1 : (w.alloc (.cells #[.slice a n c, .slice b m d] 25)).cell? ⟨w.heap.size, 1, none⟩ = some (.slice b m d) := by simp [go_sem]
  have hT1 := hT.ext hx1
  have hS1 := hS.ext hx1
  generalize (w.alloc (.cells #[.slice a n c, .slice b m d] 25)) = w1 at *
  clear hT hS
  have HS := Lib.hid hS1
  have HT := Lib.hid hT1
  clear hS1 hT1
  go_wp2_with fail
  refine (check_yes HT.out HS.out hm HTs.out Hok.out).mono ?_
  rintro e w2 ⟨rfl, hx2⟩
  have b0 := (hx2.cell (p := ⟨w.heap.size, 0, none⟩) (cell_lt b0)).trans b0
  have b1 := (hx2.cell (p := ⟨w.heap.size, 1, none⟩) (cell_lt b1)).trans b1
  have HT2 := Lib.hid (HT.out.ext hx2)
  by_cases h0 : 0 ≤ q
  · by_cases h1 : q < n
    · obtain ⟨qn, rfl⟩ := Int.eq_ofNat_of_zero_le h0
      obtain ⟨tb, tO, rfl, htk⟩ := HT2.out.atD (k := qn) (by have := hlenT.out; omega)
      go_wp2
      go_ret2
      refine ⟨?_, hx1.trans hx2⟩
      unfold textF
      rw [if_pos ⟨h0, by have := hlenT.out; omega⟩]
      rfl
    · go_wp2
      go_ret2
      refine ⟨?_, hx1.trans hx2⟩
      unfold textF
      rw [if_neg (by have := hlenT.out; omega)]
      rfl
  · go_wp2
    go_ret2
    refine ⟨?_, hx1.trans hx2⟩
    unfold textF
    rw [if_neg (by omega)]
    rfl
end Go.Proofs.Ytkhmkgobmfhchaa
