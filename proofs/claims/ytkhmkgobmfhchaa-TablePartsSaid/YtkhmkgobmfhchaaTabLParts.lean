/- TableParts: the walk. -/
import Derived.Test.YtkhmkgobmfhchaaTabX
import Derived.Test.YtkhmkgobmfhchaaTabW
import Derived.Test.YtkhmkgobmfhchaaOpenT
import Derived.Test.YtkhmkgobmfhchaaOpenS
namespace Go.Proofs.Ytkhmkgobmfhchaa
set_option linter.unusedVariables false
set_option linter.unusedSimpArgs false
open Go.RowKit Go.Shelf Go.Sort

theorem run_cutSL (a : Option Addr) (len cap l : Nat) (i : Int) (hi : i = l) (h1 : l ≤ len) (w : World) :
    (Instr.slice 22 (.slice a len cap) (some (.int .i64 i)) none none).run Try.prog w = .ok (cutV a cap l len) w := by
  subst hi
  rw [run_slice_l w 22 a len cap (by kernel_rfl) .i64 (l : Int) (by omega) (by omega)]
  obtain ⟨i, hi, hz, hsz, hby⟩ := elS.info
  have he : Try.prog.elem 22 = 9 := by kernel_rfl
  rw [he]
  simp [sizeOf, typeInfo, hi, hsz, sliced, cutV]
def cutL (L : List ByteArray) (k : Nat) : List ByteArray := (L.take k).map cutT
theorem cutL_snoc (L : List ByteArray) (k : Nat) (h : k < L.length) : cutL L (k + 1) = cutL L k ++ [cutT L[k]] := by unfold cutL; rw [take_snoc L k h, List.map_append]; rfl
theorem cutL_len (L : List ByteArray) (k : Nat) : (cutL L k).length = min k L.length := by simp [cutL]
theorem cutL_sizes (L : List ByteArray) (k : Nat) : ∀ s ∈ cutL L k, s.size ≤ 9223372036854775807 := by
  intro s hs
  obtain ⟨x, _, rfl⟩ := List.mem_map.1 hs
  have := cutT_size x
  omega

/-- What a call of All left in a box and beside it. -/
def AllAt (w0 : World) (T : List ByteArray) (S ns : List Int) (s1 s2 s3 : Value) (w : World) : Prop :=
  ∃ B a n c b m d u cu, s1 = .pointer (some ⟨B, 0, none⟩) ∧ RowAt w B 25 [.slice a n c, .slice b m d] ∧ TabOwn w0.heap.size w (.agg #[.slice a n c, .slice b m d]) T S ∧ s2 = .slice u ns.length cu ∧ w.ownsRow w0.heap.size 3 1 (.slice u ns.length cu) ns.length (ns.map (Value.int .i64)) ∧ s3 = .int .i64 0 ∧ Ext w0 w
theorem AllAt.new {w0 wB wb : World} {T : List ByteArray} {S ns : List Int} {a : Option Addr} {n c : Nat} {b : Option Addr} {m d : Nat} {u : Option Addr} {cu : Nat} (hx : Ext w0 wb) (hto : TabOwn wB.heap.size wb (.agg #[.slice a n c, .slice b m d]) T S) (hou : wb.ownsRow wB.heap.size 3 1 (.slice u ns.length cu) ns.length (ns.map (Value.int .i64))) (hs : w0.heap.size ≤ wB.heap.size) :
    AllAt w0 T S ns (.pointer (some ⟨wb.heap.size, 0, none⟩)) (.slice u ns.length cu) (.int .i64 0) (wb.alloc (.cells #[.slice a n c, .slice b m d] 25)) :=
  ⟨_, _, _, _, _, _, _, _, _, rfl, RowAt.new wb 25 [.slice a n c, .slice b m d], (hto.ext (Ext.alloc _ _)).base hs, rfl, own_base (own_ext hou (Ext.alloc _ _)) hs, rfl, hx.trans (Ext.alloc _ _)⟩
theorem AllAt.put {w0 wB wb : World} {T : List ByteArray} {S ns : List Int} {a : Option Addr} {n c : Nat} {b : Option Addr} {m d : Nat} {u : Option Addr} {cu g : Nat} (hx : Ext w0 wb) (hto : TabOwn wB.heap.size wb (.agg #[.slice a n c, .slice b m d]) T S) (hou : wb.ownsRow wB.heap.size 3 1 (.slice u ns.length cu) ns.length (ns.map (Value.int .i64))) (hs : w0.heap.size ≤ wB.heap.size) {u0 u1 : Value} (hz : RowAt wb g 25 [u0, u1]) (hg : w0.heap.size ≤ g) :
    AllAt w0 T S ns (.pointer (some ⟨g, 0, none⟩)) (.slice u ns.length cu) (.int .i64 0) ((wb.setCell ⟨g, 0, none⟩ (.slice a n c)).setCell ⟨g, 1, none⟩ (.slice b m d)) :=
  ⟨_, _, _, _, _, _, _, _, _, rfl, (hz.set 0 _).set 1 _, (hto.set2 hz (by decide) (by decide) _ _).base hs, rfl, own_base (own_set_ne (own_set_ne hou (row_not_own hz (by decide) hou) 0 _) (row_not_own hz (by decide) hou) 1 _) hs, rfl, below_set2 hx hg _ _⟩
theorem concat_two (b : Nat) (x y : Value) (p q : List Int) (w : World) (hb : w.heap.size = b) (hx : Ints w .i64 x p) (hy : Ints w .i64 y q) (hp : p.length ≤ 1000) (hq : q.length ≤ 1000) :
    Calls Try.prog 26 #[.slice (some ⟨b, 0, none⟩) 2 2] (w.alloc (.cells #[x, y] 23)) fun e w' => ∃ u, e = .returned u ∧ Ints w' .i64 u (p ++ q) ∧ Ext w w' := by
  refine (concat_any _ [(x, p), (y, q)] _ (sl_at' w #[x, y] 23 _ 2 hb (by unfold maxLen; omega)) ?_ ?_).mono ?_
  · exact Blocks.cons (hx.ext (Ext.alloc _ _)) (Blocks.cons (hy.ext (Ext.alloc _ _)) Blocks.nil)
  · rw [total_cons, total_cons, total_nil]; omega
  · rintro e w' ⟨u, rfl, ho, hx⟩
    have hfl : ∀ p q : List Int, List.flatMap Prod.snd [(x, p), (y, q)] = p ++ q := fun p q => by simp
    rw [hfl] at ho
    exact ⟨u, rfl, Sl.of_own ho, (Ext.alloc _ _).trans hx⟩
theorem RowAt.facts {w : World} {g : Nat} {t : TypeId} {u0 u1 : Value} (h : RowAt w g t [u0, u1]) : w.cell? ⟨g, 0, none⟩ = some u0 ∧ w.cell? ⟨g, 1, none⟩ = some u1 ∧ w.frozen? ⟨g, 0, none⟩ = false ∧ w.frozen? ⟨g, 1, none⟩ = false :=
  ⟨h.cell (i := 0) rfl, h.cell (i := 1) rfl, h.frozen 0, h.frozen 1⟩
theorem parts_split (l T : List ByteArray) (S : List Int) (x : Nat) (hok : TabOK T S) (hT : T.length ≤ 40) (hl : l.length ≤ 14) (hS : S.length ≤ 128) (hTs : ∀ s ∈ T, s.size ≤ 9223372036854775807) (hls : ∀ s ∈ l, s.size ≤ 9223372036854775807) :
    ∃ T1 S1 n1 T2 S2 n2, Hid (allF (l.take x) T S [] = some (T1, S1, n1)) ∧ Hid (allF (l.drop x) T1 S1 [] = some (T2, S2, n2)) ∧ Hid (allF l T S [] = some (T2, S2, n1 ++ n2)) ∧ Hid (TabOK T1 S1) ∧ Hid (∀ s ∈ T1, s.size ≤ 9223372036854775807) ∧
      S1.length ≤ 4096 ∧ n1.length ≤ 14 ∧ n2.length ≤ 14 := by
  obtain ⟨T1, S1, n1, hf1, hok1, hin1, hs1, hn1, hT1⟩ := allF_some (l.take x) T S hok (by rw [List.length_take]; omega)
  rw [List.length_take] at hn1 hT1
  obtain ⟨T2, S2, n2, hf2, hok2, hin2, hs2, hn2, hT2⟩ := allF_some (l.drop x) T1 S1 hok1 (by rw [List.length_drop]; omega)
  rw [List.length_drop] at hn2
  refine ⟨T1, S1, n1, T2, S2, n2, Lib.hid hf1, Lib.hid hf2, Lib.hid ?_, Lib.hid hok1, Lib.hid ?_, by omega, by omega, by omega⟩
  · conv => lhs; rw [← List.take_append_drop x l]
    rw [allF_append, hf1]
    simp only []
    rw [allF_acc, hf2]; rfl
  · intro s hs
    rcases hin1 s hs with h | h
    · exact hTs s h
    · exact hls s (List.mem_of_mem_take h)
theorem Strs.sizes_take {l : List ByteArray} (h : ∀ s ∈ l, s.size ≤ 9223372036854775807) (x : Nat) : ∀ s ∈ l.take x, s.size ≤ 9223372036854775807 := fun s hs => h s (List.mem_of_mem_take hs)
theorem Strs.sizes_drop {l : List ByteArray} (h : ∀ s ∈ l, s.size ≤ 9223372036854775807) (x : Nat) : ∀ s ∈ l.drop x, s.size ≤ 9223372036854775807 := fun s hs => h s (List.mem_of_mem_drop hs)

set_option maxRecDepth 100000 in
set_option maxHeartbeats 40000000 in
theorem parts_walk (v0 : Value) (T : List ByteArray) (v1 : Value) (L : List ByteArray) (q : Int) (w : World)
    (h0 : ∃ S a n c b m e, v0 = .agg #[.slice a n c, .slice b m e] ∧ Strs w (.slice a n c) T ∧ Ints w .i64 (.slice b m e) S ∧ ∀ s ∈ T, s.size ≤ 9223372036854775807)
    (h1 : Strs w v1 L ∧ ∀ s ∈ L, s.size ≤ 9223372036854775807) (h2 : -9223372036854775808 ≤ q ∧ q ≤ 9223372036854775807) :
    Calls Try.prog 7 #[v0, v1, .int .i64 q] w fun e w' => e = .returned (.bool true) ∧ Ext w w' := by
  obtain ⟨hL, hLs⟩ := h1
  obtain ⟨aL, cL, rfl, _, _⟩ := Sl.shape hL
  have HL := Lib.hid hL
  have HLs := Lib.hid hLs
  clear hL hLs
  obtain ⟨S, a, n, c, b, m, d, rfl, hT, hS, hTs⟩ := h0
  have hlen := Lib.hid hS.len
  have hlenT := Lib.hid hT.len
  have HTs := Lib.hid hTs
  clear hTs
  go_enter Try.func7, Try.ntmps7
  go_upto_region 1 with fail
  have hx1 : Ext w (w.alloc (.cells #[.slice a n c, .slice b m d] 25)) := Ext.alloc _ _
  have b0 : (w.alloc (.cells #[.slice a n c, .slice b m d] 25)).cell? ⟨w.heap.size, 0, none⟩ = some (.slice a n c) := by simp [go_sem]
  have b1 : (w.alloc (.cells #[.slice a n c, .slice b m d] 25)).cell? ⟨w.heap.size, 1, none⟩ = some (.slice b m d) := by simp [go_sem]
  have hT1 := hT.ext hx1
  have hS1 := hS.ext hx1
  generalize (w.alloc (.cells #[.slice a n c, .slice b m d] 25)) = w1 at *
  clear hT hS
  have HS := Lib.hid hS1
  have HT := Lib.hid hT1
  clear hS1 hT1
  go_wp2_with fail
  refine (wakes_any _).mono ?_
  rintro e w2 ⟨rfl, hx2⟩
  have b0 := ext_cell hx2 b0
  have b1 := ext_cell hx2 b1
  have HS := Lib.hid (HS.out.ext hx2)
  have HT := Lib.hid (HT.out.ext hx2)
  have hx1 := hx1.trans hx2
  go_wp2_with fail
  refine (small_any T S _ _ _ _ _ _ _ HT.out HS.out).mono ?_
  rintro e w3 ⟨rfl, hx3⟩
  have b0 := ext_cell hx3 b0
  have b1 := ext_cell hx3 b1
  have HS := Lib.hid (HS.out.ext hx3)
  have HT := Lib.hid (HT.out.ext hx3)
  have hx1 := hx1.trans hx3
  clear hx2 hx3
  by_cases hsm : n ≤ 40 ∧ m ≤ 128
  · have hn40 : T.length ≤ 40 := by have := hlenT.out; omega
    have hm128 : S.length ≤ 128 := by have := hlen.out; omega
    rw [show (decide (n ≤ 40) && decide (m ≤ 128)) = true from by rw [decide_eq_true hsm.1, decide_eq_true hsm.2]; rfl]
    clear hsm
    go_wp2_with fail
    go_loopg [7, 27] L.length (fun g s7 i wr => ∃ k : Nat, k ≤ L.length ∧ g = L.length - k ∧ i = .int .i64 k ∧ wr.ownsRow w3.heap.size 9 1 s7 (min k 14) ((cutL L (min k 14)).map Value.string) ∧ Ext w3 wr)
    case atStart => exact ⟨0, Nat.zero_le _, rfl, rfl, World.ownsRow_nil _ _ _ _, Ext.refl _⟩
    case round =>
      obtain ⟨k, hk, hg, rfl, ho, hxr⟩ := hrel
      have Hg := Lib.hid hg
      clear hg
      have b0 := ext_cell hxr b0
      have b1 := ext_cell hxr b1
      by_cases hlt : k < L.length
      · obtain ⟨lb, lO, rfl, hlk⟩ := (HL.out.ext (hx1.trans hxr)).atD hlt
        have hls := HLs.out _ (List.getElem_mem hlt)
        rw [getD_at hlt] at hlk
        have hsn := cutL_snoc L k hlt
        generalize L[k] = s at hlk hls hsn
        have Hsn := Lib.hid hsn
        clear hsn
        by_cases h14 : k < 14
        · have hmk : min k 14 = k := by omega
          have hmk1 : min (k + 1) 14 = k + 1 := by omega
          rw [hmk] at ho
          have Hmk1 := Lib.hid hmk1
          obtain ⟨g5, c5, rfl⟩ := own_sl ho
          have hsz := hxr.size
          clear hmk hmk1
          go_wp2_with fail
          refine (cut_any s _ hls).mono ?_
          rintro e w' ⟨rfl, rfl⟩
          go_wp2_with (at_builtin; refine wpList_append_sl _ rfl _ _ 22 rfl elS rfl (ho.alloc _) rfl (Sl.new _ #[.string (cutT s)] 9 1 1 (Nat.le_refl _) ?_) rfl ?_ ?_ ?_ ?_ ?_)
          · unfold maxLen; omega
          · rfl
          · omega
          · unfold maxLen; omega
          · simp; omega
          intro v5 w5 hown hb _ _
          have hfin : w5.ownsRow w3.heap.size 9 1 v5 (min (k + 1) 14) ((cutL L (min (k + 1) 14)).map Value.string) := by
            rw [Hmk1.out, Hsn.out, List.map_append]; exact hown
          have hB5 : Ext w3 w5 := (hxr.trans (Ext.alloc wr (.cells #[.string (cutT s)] 9))).trans' hb
          have Hfin := Lib.hid hfin
          have HB5 := Lib.hid hB5
          clear hfin hB5 hown hb ho
          go_wp2_with fail
          go_roundg (L.length - (k + 1))
          case measure => have := Hg.out; omega
          case rel => exact ⟨k + 1, by omega, rfl, by go_num, Hfin.out, HB5.out⟩
        · have hmk : min k 14 = min (k + 1) 14 := by omega
          have Hmk := Lib.hid hmk
          have Ho := Lib.hid ho
          clear hmk ho
          go_wp2_with fail
          go_roundg (L.length - (k + 1))
          case measure => have := Hg.out; omega
          case rel => exact ⟨k + 1, by omega, rfl, by go_num, by rw [← Hmk.out]; exact Ho.out, hxr⟩
      · obtain rfl : k = L.length := by omega
        obtain ⟨gl, cl, rfl⟩ := own_sl ho
        have hlL : (cutL L (min L.length 14)).length = min L.length 14 := by rw [cutL_len]; omega
        have hlz := cutL_sizes L (min L.length 14)
        have hLL : Strs wr (.slice gl (min L.length 14) cl) (cutL L (min L.length 14)) := by
          have := Sl.of_own ho; unfold Strs; rw [hlL]; exact this
        have hncl : min L.length 14 ≤ cl := by obtain ⟨_, _, e, h, _⟩ := Sl.shape hLL; simp only [Value.slice.injEq] at e; omega
        have hl14 : min L.length 14 ≤ 14 := by omega
        have hns : Strs wr (.slice gl (min L.length 14) cl) (cutL L (min L.length 14)) := hLL
        generalize hnl : min L.length 14 = nl at hlL hlz hLL hncl hl14 ho hns
        generalize cutL L nl = l at hlL hlz hLL ho hns
        have Hlz := Lib.hid hlz
        have HLL := Lib.hid hLL
        have HT := Lib.hid (HT.out.ext hxr)
        have HS := Lib.hid (HS.out.ext hxr)
        have hx1 := hx1.trans hxr
        subst hlL
        clear hnl hlz hLL ho hxr HL hns
        obtain ⟨x, hx⟩ : ∃ x : Nat, (IntKind.u64.wrap q).tmod ((l.length : Int) + 1) = x := by
          refine ⟨((IntKind.u64.wrap q).tmod ((l.length : Int) + 1)).toNat, ?_⟩
          rw [Int.toNat_of_nonneg]
          exact Int.tmod_nonneg _ (by rw [wrap64]; omega)
        have hxl : x ≤ l.length := by
          have := Int.tmod_lt_of_pos (IntKind.u64.wrap q) (show 0 < (l.length : Int) + 1 by omega)
          omega
        go_wp2_with fail
        refine (own_any T S _ _ _ _ _ _ _ HT.out HS.out (by omega) (by omega)).mono ?_
        rintro e w4 ⟨v4, rfl, hto, hx4⟩
        obtain ⟨a4, n4, c4, b4, m4, d4, rfl, hT4, hS4, rfl, rfl, _, _⟩ := hto.views
        have HT := Lib.hid (HT.out.ext hx4)
        have HS := Lib.hid (HS.out.ext hx4)
        have HLL := Lib.hid (HLL.out.ext hx4)
        have b0 := ext_cell hx4 b0
        have b1 := ext_cell hx4 b1
        have hx1 := hx1.trans hx4
        by_cases hok : TabOK T S
        · obtain ⟨T1, S1, n1, T2, S2, n2, Hf1, Hf2, Hf, Hok1, HTs1, hS14, hn1, hn2⟩ := parts_split l T S x hok (by omega) (by omega) (by omega) HTs.out Hlz.out
          have hall := all_yes T S l a4 _ c4 b4 _ d4 _ w4 hT4 hS4 HLL.out (by omega) Hlz.out (by omega) HTs.out hok
          rw [Hf.out] at hall
          have Hall := Lib.hid hall
          have Hok := Lib.hid hok
          clear hall hok hto hT4 hS4 hx4
          go_wp2_with fail
          refine Hall.out.mono ?_
          rintro e w5 ⟨hx5, v5, u5, rfl, hto5, hou5⟩
          obtain ⟨a5, n5, c5, b5, m5, d5, rfl, hT5, hS5, rfl, rfl, _, _⟩ := hto5.views
          obtain ⟨gu, cu, rfl⟩ := own_sl hou5
          have hN5 : Ints w5 .i64 (.slice gu (n1.length + n2.length) cu) (n1 ++ n2) := by have h : Ints w5 .i64 (.slice gu (n1 ++ n2).length cu) (n1 ++ n2) := Sl.of_own hou5; rw [List.length_append] at h; exact h
          have hx6 := hx5.trans (Ext.alloc w5 (.cells #[.slice a5 T2.length c5, .slice b5 S2.length d5] 25))
          have hr6 : RowAt (w5.alloc (.cells #[.slice a5 T2.length c5, .slice b5 S2.length d5] 25)) w5.heap.size 25 [.slice a5 T2.length c5, .slice b5 S2.length d5] := RowAt.new w5 25 [.slice a5 T2.length c5, .slice b5 S2.length d5]
          have HT5 := Lib.hid (Strs.ext hT5 (Ext.alloc w5 (.cells #[.slice a5 T2.length c5, .slice b5 S2.length d5] 25)))
          have HN5 := Lib.hid (Ints.ext hN5 (Ext.alloc w5 (.cells #[.slice a5 T2.length c5, .slice b5 S2.length d5] 25)))
          clear hto5 hou5 hT5 hS5 hN5
          go_upto_region 14 with fail
          generalize (w5.alloc (.cells #[.slice a5 T2.length c5, .slice b5 S2.length d5] 25)) = w6 at *
          have t0 := hr6.cell (i := 0) rfl
          have t1 := hr6.cell (i := 1) rfl
          have b0 := ext_cell hx6 b0
          have b1 := ext_cell hx6 b1
          have hx1 := hx1.trans hx6
          have HT := Lib.hid (HT.out.ext hx6)
          have HS := Lib.hid (HS.out.ext hx6)
          have HLL := Lib.hid (HLL.out.ext hx6)
          have hx6 := Lib.hid (Ext.refl w6)
          clear hr6 hx5 Hall
          go_cut [14, 15, 16] (AllAt w6 T1 S1 n1)
          case first =>
            have bz0 := ext_cell (Ext.alloc w6 (.cells #[.slice none 0 0, .slice none 0 0] 25)) b0
            have bz1 := ext_cell (Ext.alloc w6 (.cells #[.slice none 0 0, .slice none 0 0] 25)) b1
            go_region_with (first | (go_at_call 10; refine (own_any T S _ _ _ _ _ _ _ (HT.out.ext (by first | exact Ext.drewN _ 1 | exact (Ext.drewN _ 1).trans (Ext.alloc _ _) | exact (Ext.alloc _ _).trans (Ext.drewN _ 1))) (HS.out.ext (by first | exact Ext.drewN _ 1 | exact (Ext.drewN _ 1).trans (Ext.alloc _ _) | exact (Ext.alloc _ _).trans (Ext.drewN _ 1))) (by omega) (by omega)).mono ?_; rintro e wa ⟨va, rfl, htoa, hxa⟩; obtain ⟨aa, na, ca, ba, ma, da, rfl, hTa, hSa, rfl, rfl, _, _⟩ := htoa.views; have hxA : Ext w6 wa := Ext.trans (by first | exact Ext.drewN _ 1 | exact (Ext.drewN _ 1).trans (Ext.alloc _ _) | exact (Ext.alloc _ _).trans (Ext.drewN _ 1)) hxa; try (have hz : RowAt wa w6.heap.size 25 [.slice none 0 0, .slice none 0 0] := RowAt.ext (by first | exact row_at (by simp) | exact (row_at (by simp)).ext (Ext.drewN _ 1)) hxa)) | (go_at_call 23; refine (all_yes T S (l.take x) aa _ ca ba _ da _ _ (hTa.ext (by first | exact Ext.refl _ | exact Ext.alloc _ _)) (hSa.ext (by first | exact Ext.refl _ | exact Ext.alloc _ _)) (Strs.take (HLL.out.ext (by first | exact hxA | exact hxA.trans (Ext.alloc _ _))) x hxl) (by rw [List.length_take]; omega) (Strs.sizes_take Hlz.out x) (by omega) HTs.out Hok.out).mono ?_; rintro e wb hp; rw [Hf1.out] at hp; obtain ⟨hxb, vb, ub, rfl, htob, houb⟩ := hp; obtain ⟨ab, nb, cb, bb, mb, db, rfl, hTb, hSb, rfl, rfl, _, _⟩ := htob.views; obtain ⟨gb, cub, rfl⟩ := own_sl houb; have hxB : Ext w6 wb := Ext.trans (by first | exact hxA | exact hxA.trans (Ext.alloc _ _)) hxb; first | (have hz : RowAt wb wa.heap.size 25 [.slice none 0 0, .slice none 0 0] := RowAt.ext (by first | exact row_at (by simp) | exact (row_at (by simp)).ext (Ext.drewN _ 1)) hxb; obtain ⟨z0, z1, zf0, zf1⟩ := hz.facts) | (fail_if_success (have hq := hz); skip) | (have hz : RowAt wb w6.heap.size 25 [.slice none 0 0, .slice none 0 0] := RowAt.ext hz hxb; obtain ⟨z0, z1, zf0, zf1⟩ := hz.facts)))
            all_goals
              go_wp2_with fail
              go_meet
              first | exact AllAt.new hxB htob houb (by first | exact hxA.size | (have := hxA.size; simp; omega)) | exact AllAt.put hxB htob houb (by first | exact hxA.size | (have := hxA.size; simp; omega)) hz (by first | exact hxA.size | exact Nat.le_refl _)
          case rest =>
            obtain ⟨B7, a7, n7, c7, b7, m7, d7, u7, cu7, rfl, hr7, hto7, rfl, hou7, rfl, hx7⟩ := hcut
            obtain ⟨_, _, _, _, _, _, e1, hT7, hS7, rfl, rfl, _, _⟩ := hto7.views
            simp only [Value.agg.injEq, Array.mk.injEq, List.cons.injEq, Value.slice.injEq, and_true] at e1
            obtain ⟨⟨rfl, rfl, rfl⟩, rfl, rfl, rfl⟩ := e1
            have hN7 : Ints _ .i64 (.slice u7 n1.length cu7) n1 := Sl.of_own hou7
            rename World => w7
            have t0 := ext_cell hx7 t0
            have t1 := ext_cell hx7 t1
            obtain ⟨x0, x1, _, _⟩ := hr7.facts
            have hx1 := hx1.trans hx7
            have HT5 := Lib.hid (HT5.out.ext (hx6.out.trans hx7))
            have HN5 := Lib.hid (HN5.out.ext (hx6.out.trans hx7))
            have HLL := Lib.hid (HLL.out.ext hx7)
            have HT7 := Lib.hid hT7
            have HS7 := Lib.hid hS7
            have HN7 := Lib.hid hN7
            have Hxl := Lib.hid hxl
            clear hr7 hto7 hou7 hx7 hT7 hS7 hN7 b0 b1 hx hx6 HT HS
            go_upto_region 17 with fail
            generalize hxi : (x : Int) = xi
            have hcutv := fun W => run_cutSL gl l.length cl x xi hxi.symm Hxl.out W
            have Hxi := Lib.hid hxi
            clear hxi hxl
            go_cut [17, 18, 19] (AllAt w7 T2 S2 n2)
            case first =>
              have bz0 := ext_cell (Ext.alloc w7 (.cells #[.slice none 0 0, .slice none 0 0] 25)) x0
              have bz1 := ext_cell (Ext.alloc w7 (.cells #[.slice none 0 0, .slice none 0 0] 25)) x1
              go_region_with (go_at_call 23; refine (all_yes T1 S1 (l.drop x) a7 _ c7 b7 _ d7 (cutV gl cl x l.length) _ (HT7.out.ext (by first | exact Ext.refl _ | exact Ext.drewN _ 1 | exact Ext.alloc _ _ | exact (Ext.drewN _ 1).trans (Ext.alloc _ _) | exact (Ext.alloc _ _).trans (Ext.drewN _ 1))) (HS7.out.ext (by first | exact Ext.refl _ | exact Ext.drewN _ 1 | exact Ext.alloc _ _ | exact (Ext.drewN _ 1).trans (Ext.alloc _ _) | exact (Ext.alloc _ _).trans (Ext.drewN _ 1))) (Strs.drop (HLL.out.ext (by first | exact Ext.refl _ | exact Ext.drewN _ 1 | exact Ext.alloc _ _ | exact (Ext.drewN _ 1).trans (Ext.alloc _ _) | exact (Ext.alloc _ _).trans (Ext.drewN _ 1))) x Hxl.out) (by rw [List.length_drop]; omega) (Strs.sizes_drop Hlz.out x) (by omega) HTs1.out Hok1.out).mono ?_; rintro e wb hp; rw [Hf2.out] at hp; obtain ⟨hxb, vb, ub, rfl, htob, houb⟩ := hp; obtain ⟨ab, nb, cb, bb, mb, db, rfl, hTb, hSb, rfl, rfl, _, _⟩ := htob.views; obtain ⟨gb, cub, rfl⟩ := own_sl houb; have hxB : Ext w7 wb := Ext.trans (by first | exact Ext.refl _ | exact Ext.drewN _ 1 | exact Ext.alloc _ _ | exact (Ext.drewN _ 1).trans (Ext.alloc _ _) | exact (Ext.alloc _ _).trans (Ext.drewN _ 1)) hxb; try (have hz : RowAt wb w7.heap.size 25 [.slice none 0 0, .slice none 0 0] := RowAt.ext (by first | exact row_at (by simp) | exact (row_at (by simp)).ext (Ext.drewN _ 1)) hxb; obtain ⟨z0, z1, zf0, zf1⟩ := hz.facts))
              all_goals
                go_wp2_with fail
                go_meet
                first | exact AllAt.new hxB htob houb (by first | exact Nat.le_refl _ | simp) | exact AllAt.put hxB htob houb (by first | exact Nat.le_refl _ | simp) hz (Nat.le_refl _)
            case rest =>
              obtain ⟨B8, a8, n8, c8, b8, m8, d8, u8, cu8, rfl, hr8, hto8, rfl, hou8, rfl, hx8⟩ := hcut
              obtain ⟨_, _, _, _, _, _, e1, hT8, hS8, rfl, rfl, _, _⟩ := hto8.views
              simp only [Value.agg.injEq, Array.mk.injEq, List.cons.injEq, Value.slice.injEq, and_true] at e1
              obtain ⟨⟨rfl, rfl, rfl⟩, rfl, rfl, rfl⟩ := e1
              have hN8 : Ints _ .i64 (.slice u8 n2.length cu8) n2 := Sl.of_own hou8
              rename World => w8
              have t0 := ext_cell hx8 t0
              have t1 := ext_cell hx8 t1
              obtain ⟨y0, y1, _, _⟩ := hr8.facts
              have hx1 := hx1.trans hx8
              have HT5 := Lib.hid (HT5.out.ext hx8)
              have HN5 := Lib.hid (HN5.out.ext hx8)
              have HN7 := Lib.hid (HN7.out.ext hx8)
              have HT8 := Lib.hid hT8
              have HN8 := Lib.hid hN8
              clear hr8 hto8 hou8 hT8 hS8 hN8 x0 x1 hx8 HT7 HS7 HLL hcutv
              go_wp2_with fail
              refine (concat_two _ _ _ n1 n2 w8 (by first | rfl | simp) HN7.out HN8.out (by omega) (by omega)).mono ?_
              rintro e w9 ⟨u9, rfl, hu9, hx9⟩
              have t0 := ext_cell hx9 t0
              have t1 := ext_cell hx9 t1
              have y0 := ext_cell hx9 y0
              have y1 := ext_cell hx9 y1
              go_wp2_with fail
              refine (equalI_yes _ _ _ _ _ hu9 (HN5.out.ext hx9) rfl).mono ?_
              rintro e wc ⟨rfl, nc, rfl⟩
              have hxc := Ext.drewN w9 nc
              generalize w9.drewN nc = wc at *
              have t0 := ext_cell hxc t0
              have t1 := ext_cell hxc t1
              have y0 := ext_cell hxc y0
              have y1 := ext_cell hxc y1
              go_wp2_with fail
              refine (equalS_yes _ _ _ _ _ (HT8.out.ext (hx9.trans hxc)) (HT5.out.ext (hx9.trans hxc)) rfl).mono ?_
              rintro e wd ⟨rfl, nd, rfl⟩
              go_wp2
              go_ret
              exact ⟨rfl, ((hx1.trans hx9).trans hxc).trans (Ext.drewN _ _)⟩
        · have Hok := Lib.hid hok
          clear hok hto
          go_wp2_with fail
          refine (all_no T S l a4 _ c4 b4 _ d4 gl l.length cl w4 hT4 hS4 (by omega) HTs.out Hok.out).mono ?_
          rintro e w5 ⟨rfl, hx5⟩
          unfold nilTab
          have hx6 := hx5.trans (Ext.alloc w5 (.cells #[.slice none 0 0, .slice none 0 0] 25))
          go_upto_region 14 with fail
          generalize (w5.alloc (.cells #[.slice none 0 0, .slice none 0 0] 25)) = w6 at *
          have b0 := ext_cell hx6 b0
          have b1 := ext_cell hx6 b1
          have hx1 := hx1.trans hx6
          have HT := Lib.hid (HT.out.ext hx6)
          have HS := Lib.hid (HS.out.ext hx6)
          clear hT4 hS4 hx4 hx5 hx6
          go_cut [14, 15, 16] (fun _ _ s16 wx => s16 = .int .i64 150 ∧ Ext w6 wx)
          case first =>
            have bz0 := ext_cell (Ext.alloc w6 (.cells #[.slice none 0 0, .slice none 0 0] 25)) b0
            have bz1 := ext_cell (Ext.alloc w6 (.cells #[.slice none 0 0, .slice none 0 0] 25)) b1
            go_region_with (first | (go_at_call 10; refine (own_any T S _ _ _ _ _ _ _ (HT.out.ext (by first | exact Ext.drewN _ 1 | exact (Ext.drewN _ 1).trans (Ext.alloc _ _) | exact (Ext.alloc _ _).trans (Ext.drewN _ 1))) (HS.out.ext (by first | exact Ext.drewN _ 1 | exact (Ext.drewN _ 1).trans (Ext.alloc _ _) | exact (Ext.alloc _ _).trans (Ext.drewN _ 1))) (by omega) (by omega)).mono ?_; rintro e wa ⟨va, rfl, htoa, hxa⟩; obtain ⟨aa, na, ca, ba, ma, da, rfl, hTa, hSa, rfl, rfl, _, _⟩ := htoa.views; have hxA : Ext w6 wa := Ext.trans (by first | exact Ext.drewN _ 1 | exact (Ext.drewN _ 1).trans (Ext.alloc _ _) | exact (Ext.alloc _ _).trans (Ext.drewN _ 1)) hxa; try (have hz : RowAt wa w6.heap.size 25 [.slice none 0 0, .slice none 0 0] := RowAt.ext (by first | exact row_at (by simp) | exact (row_at (by simp)).ext (Ext.drewN _ 1)) hxa)) | (go_at_call 23; refine (all_no T S (l.take x) aa _ ca ba _ da gl x cl _ (hTa.ext (by first | exact Ext.refl _ | exact Ext.alloc _ _)) (hSa.ext (by first | exact Ext.refl _ | exact Ext.alloc _ _)) (by omega) HTs.out Hok.out).mono ?_; rintro e wb ⟨rfl, hxb⟩; unfold nilTab; have hxB : Ext w6 wb := Ext.trans (by first | exact hxA | exact hxA.trans (Ext.alloc _ _)) hxb; first | (have hz : RowAt wb wa.heap.size 25 [.slice none 0 0, .slice none 0 0] := RowAt.ext (by first | exact row_at (by simp) | exact (row_at (by simp)).ext (Ext.drewN _ 1)) hxb; obtain ⟨z0, z1, zf0, zf1⟩ := hz.facts) | (fail_if_success (have hq := hz); skip) | (have hz : RowAt wb w6.heap.size 25 [.slice none 0 0, .slice none 0 0] := RowAt.ext hz hxb; obtain ⟨z0, z1, zf0, zf1⟩ := hz.facts)))
            all_goals
              go_wp2_with fail
              go_meet
              first | exact ⟨rfl, hxB.trans (Ext.alloc _ _)⟩ | exact ⟨rfl, below_set2 hxB (by first | exact hxA.size | exact Nat.le_refl _) _ _⟩
          case rest =>
            obtain ⟨rfl, hx7⟩ := hcut
            go_wp2
            go_ret
            exact ⟨rfl, hx1.trans hx7⟩
  · rw [show (decide (n ≤ 40) && decide (m ≤ 128)) = false from by rw [Bool.and_eq_false_iff]; by_cases h : n ≤ 40; exact .inr (decide_eq_false (by omega)); exact .inl (decide_eq_false h)]
    go_wp2
    go_ret
    exact ⟨rfl, hx1⟩
end Go.Proofs.Ytkhmkgobmfhchaa
