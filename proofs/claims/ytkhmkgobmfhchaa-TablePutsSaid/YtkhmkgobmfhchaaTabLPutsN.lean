/- TablePuts: the walk where the table is not right. -/
import Derived.Test.YtkhmkgobmfhchaaTabX
import Derived.Test.YtkhmkgobmfhchaaTabZ

import Derived.Test.YtkhmkgobmfhchaaOpenT
import Derived.Test.YtkhmkgobmfhchaaOpenS
namespace Go.Proofs.Ytkhmkgobmfhchaa
set_option linter.unusedVariables false
set_option linter.unusedSimpArgs false
open Go.RowKit Go.Shelf Go.Sort

/-- A box of the table's type that holds no table. -/
def NoTab (w0 : World) (s1 s2 s3 : Value) (w : World) : Prop := ∃ B, s1 = .pointer (some ⟨B, 0, none⟩) ∧ RowAt w B 25 [.slice none 0 0, .slice none 0 0] ∧ s2 = .int .i64 0 ∧ s3 = .int .i64 150 ∧ Ext w0 w
theorem NoTab.new {w0 wb : World} (hx : Ext w0 wb) : NoTab w0 (.pointer (some ⟨wb.heap.size, 0, none⟩)) (.int .i64 0) (.int .i64 150) (wb.alloc (.cells #[.slice none 0 0, .slice none 0 0] 25)) :=
  ⟨_, rfl, row_at (by simp), rfl, rfl, hx.trans (Ext.alloc _ _)⟩
theorem NoTab.put {w0 wb : World} {g : Nat} (hx : Ext w0 wb) {u0 u1 : Value} (hz : RowAt wb g 25 [u0, u1]) (hg : w0.heap.size ≤ g) : NoTab w0 (.pointer (some ⟨g, 0, none⟩)) (.int .i64 0) (.int .i64 150) ((wb.setCell ⟨g, 0, none⟩ (.slice none 0 0)).setCell ⟨g, 1, none⟩ (.slice none 0 0)) :=
  ⟨_, rfl, (hz.set 0 _).set 1 _, rfl, rfl, below_set2 hx hg _ _⟩

set_option maxRecDepth 100000 in
set_option maxHeartbeats 40000000 in
theorem puts_no (T : List ByteArray) (S : List Int) (a : Option Addr) (n c : Nat) (b : Option Addr) (m d : Nat) (v1 : Value) (L : List ByteArray) (w : World)
    (hT : Strs w (.slice a n c) T) (hS : Ints w .i64 (.slice b m d) S) (hTs : ∀ s ∈ T, s.size ≤ 9223372036854775807) (hok : ¬ TabOK T S)
    (h1 : Strs w v1 L ∧ ∀ s ∈ L, s.size ≤ 9223372036854775807) :
    Calls Try.prog 4 #[.agg #[.slice a n c, .slice b m d], v1] w fun e w' => e = .returned (.bool true) ∧ Ext w w' := by
  obtain ⟨hL, hLs⟩ := h1
  obtain ⟨aL, cL, rfl, _, _⟩ := Sl.shape hL
  have HL := Lib.hid hL
  have HLs := Lib.hid hLs
  clear hL hLs
  have hlen := Lib.hid hS.len
  have hlenT := Lib.hid hT.len
  have HTs := Lib.hid hTs
  clear hTs
  go_enter Try.func4, Try.ntmps4
  go_upto_region 1 with fail
  have hx1 : Ext w (w.alloc (.cells #[.slice a n c, .slice b m d] 25)) := Ext.alloc _ _
  have b0 : (w.alloc (.cells #[.slice a n c, .slice b m d] 25)).cell? ⟨w.heap.size, 0, none⟩ = some (.slice a n c) := by simp [go_sem]
  have b1 : (w.alloc (.cells #[.slice a n c, .slice b m d] 25)).cell? ⟨w.heap.size, 1, none⟩ = some (.slice b m d) := by simp [go_sem]
  have hT1 := hT.ext hx1
  have hS1 := hS.ext hx1
  generalize (w.alloc (.cells #[.slice a n c, .slice b m d] 25)) = w1 at *
  clear hT hS
  have HS := Lib.hid hS1
  have HT := Lib.hid hT1
  clear hS1 hT1
  go_wp2_with fail
  refine (wakes_any _).mono ?_
  rintro e w2 ⟨rfl, hx2⟩
  have b0 := ext_cell hx2 b0
  have b1 := ext_cell hx2 b1
  have HS := Lib.hid (HS.out.ext hx2)
  have HT := Lib.hid (HT.out.ext hx2)
  have hx1 := hx1.trans hx2
  go_wp2_with fail
  refine (small_any T S _ _ _ _ _ _ _ HT.out HS.out).mono ?_
  rintro e w3 ⟨rfl, hx3⟩
  have b0 := ext_cell hx3 b0
  have b1 := ext_cell hx3 b1
  have HS := Lib.hid (HS.out.ext hx3)
  have HT := Lib.hid (HT.out.ext hx3)
  have hx1 := hx1.trans hx3
  clear hx2 hx3
  by_cases hsm : n ≤ 40 ∧ m ≤ 128
  · have hn40 : T.length ≤ 40 := by have := hlenT.out; omega
    have hm128 : S.length ≤ 128 := by have := hlen.out; omega
    rw [show (decide (n ≤ 40) && decide (m ≤ 128)) = true from by rw [decide_eq_true hsm.1, decide_eq_true hsm.2]; rfl]
    clear hsm
    go_wp2_with fail
    refine (own_any T S _ _ _ _ _ _ _ HT.out HS.out (by omega) (by omega)).mono ?_
    rintro e w4 ⟨v4, rfl, hto, hx4⟩
    obtain ⟨a4, n4, c4, b4, m4, d4, rfl, hT4, hS4, rfl, rfl, hoa, hob⟩ := hto.views
    have HS := Lib.hid (HS.out.ext hx4)
    have HT := Lib.hid (HT.out.ext hx4)
    have b0 := ext_cell hx4 b0
    have b1 := ext_cell hx4 b1
    have hx1 := hx1.trans hx4
    have HT4 := Lib.hid hT4
    have HS4 := Lib.hid hS4
    have HO4 := Lib.hid hto
    clear hx4 hto hoa hob hT4 hS4
    go_upto_region 6 with fail
    have hx5 : Ext w4 (w4.alloc (.cells #[.slice a4 T.length c4, .slice b4 S.length d4] 25)) := Ext.alloc _ _
    have hr5 : RowAt (w4.alloc (.cells #[.slice a4 T.length c4, .slice b4 S.length d4] 25)) w4.heap.size 25 [.slice a4 T.length c4, .slice b4 S.length d4] := RowAt.new w4 25 [.slice a4 T.length c4, .slice b4 S.length d4]
    generalize (w4.alloc (.cells #[.slice a4 T.length c4, .slice b4 S.length d4] 25)) = w5 at *
    have b0 := ext_cell hx5 b0
    have b1 := ext_cell hx5 b1
    have HS := Lib.hid (HS.out.ext hx5)
    have HT := Lib.hid (HT.out.ext hx5)
    have HT4 := Lib.hid (HT4.out.ext hx5)
    have HS4 := Lib.hid (HS4.out.ext hx5)
    have HO4 := Lib.hid (HO4.out.ext hx5)
    have hx1 := hx1.trans hx5
    have t0 := hr5.cell (i := 0) rfl
    have t1 := hr5.cell (i := 1) rfl
    have Hr5 := Lib.hid hr5
    clear hx5 hr5
    have hrg := right_any T S a4 T.length c4 b4 S.length d4 w5 HT4.out HS4.out (by omega) HTs.out
    have Hrg := Lib.hid hrg
    clear hrg
    go_wp2_with fail
    refine Hrg.out.mono ?_
    rintro e w6 ⟨r, rfl, hr, hx6⟩
    rw [right_iff] at hr
    have Hr := Lib.hid hr
    have t0 := ext_cell hx6 t0
    have t1 := ext_cell hx6 t1
    have b0 := ext_cell hx6 b0
    have b1 := ext_cell hx6 b1
    have hx1 := hx1.trans hx6
    have HT4 := Lib.hid (HT4.out.ext hx6)
    have HS4 := Lib.hid (HS4.out.ext hx6)
    have HO4 := Lib.hid (HO4.out.ext hx6)
    have Hr5 := Lib.hid (Hr5.out.ext hx6)
    have HT := Lib.hid (HT.out.ext hx6)
    have HS := Lib.hid (HS.out.ext hx6)
    clear hr hx6
    · obtain rfl : r = false := by cases r with | false => rfl | true => exact absurd (Hr.out.1 rfl) hok
      have Hok := Lib.hid hok
      have T0 := Lib.hid t0
      have T1 := Lib.hid t1
      have B0 := Lib.hid b0
      have B1 := Lib.hid b1
      clear hok Hr
      go_wp2_with fail
      clear t0 t1 b0 b1
      go_loopg [8, 37] L.length (fun g s8 i wr => ∃ k : Nat, k ≤ L.length ∧ k ≤ 12 ∧ g = L.length - k ∧ i = .int .i64 k ∧ wr.ownsRow w6.heap.size 9 1 s8 k ((cutL L k).map Value.string) ∧ Ext w6 wr)
      case atStart => exact ⟨0, Nat.zero_le _, by omega, rfl, rfl, World.ownsRow_nil _ _ _ _, Ext.refl _⟩
      case round =>
        obtain ⟨k, hk, hk12, hg, rfl, ho, hxr⟩ := hrel
        have Hg := Lib.hid hg
        clear hg
        by_cases hlt : k < L.length
        · obtain ⟨lb, lO, rfl, hlk⟩ := (HL.out.ext (hx1.trans hxr)).atD hlt
          have hls := HLs.out _ (List.getElem_mem hlt)
          rw [getD_at hlt] at hlk
          have hsn := cutL_snoc L k hlt
          generalize L[k] = s at hlk hls hsn
          have Hsn := Lib.hid hsn
          clear hsn
          by_cases h12 : k = 12
          · have hd : ((k : Int) == 12) = true := by simp; omega
            clear h12
            have b0 := ext_cell hxr B0.out
            have b1 := ext_cell hxr B1.out
            obtain ⟨g5, c5, rfl⟩ := own_sl ho
            go_wp2_with fail
            refine (own_any T S _ _ _ _ _ _ _ (HT.out.ext hxr) (HS.out.ext hxr) (by omega) (by omega)).mono ?_
            rintro e wa ⟨va, rfl, htoa, hxa⟩
            obtain ⟨aa, na, ca, ba, ma, da, rfl, hTa, hSa, rfl, rfl, _, _⟩ := htoa.views
            go_wp2_with fail
            refine (all_no T S (cutL L k) aa _ ca ba _ da g5 _ c5 _ hTa hSa (by omega) HTs.out Hok.out).mono ?_
            rintro e wb ⟨rfl, hxb⟩
            unfold nilTab
            go_upto_region 34 with fail
            obtain ⟨z0, z1, _, _⟩ := (show RowAt (wb.alloc (.cells #[.slice none 0 0, .slice none 0 0] 25)) wb.heap.size 25 [.slice none 0 0, .slice none 0 0] from row_at (by simp)).facts
            have hxc := Ext.alloc wb (.cells #[.slice none 0 0, .slice none 0 0] 25)
            generalize (wb.alloc (.cells #[.slice none 0 0, .slice none 0 0] 25)) = wc at *
            go_wp2
            go_ret
            exact ⟨rfl, (((hx1.trans hxr).trans hxa).trans hxb).trans hxc⟩
          · have hd : ((k : Int) == 12) = false := by simp; omega
            have hk1 : k + 1 ≤ 12 := by omega
            obtain ⟨g5, c5, rfl⟩ := own_sl ho
            have hsz := hxr.size
            clear h12
            go_wp2_with fail
            refine (cut_any s _ hls).mono ?_
            rintro e w' ⟨rfl, rfl⟩
            go_wp2_with (at_builtin; refine wpList_append_sl _ rfl _ _ 22 rfl elS rfl (ho.alloc _) rfl (Sl.new _ #[.string (cutT s)] 9 1 1 (Nat.le_refl _) ?_) rfl ?_ ?_ ?_ ?_ ?_)
            · unfold maxLen; omega
            · rfl
            · omega
            · unfold maxLen; omega
            · simp; omega
            intro v5 w7 hown hb _ _
            have hfin : w7.ownsRow w6.heap.size 9 1 v5 (k + 1) ((cutL L (k + 1)).map Value.string) := by
              rw [Hsn.out, List.map_append]; exact hown
            have hB5 : Ext w6 w7 := (hxr.trans (Ext.alloc wr (.cells #[.string (cutT s)] 9))).trans' hb
            have Hfin := Lib.hid hfin
            have t0 := ext_cell hB5 T0.out
            have t1 := ext_cell hB5 T1.out
            have HT7 := Lib.hid (HT4.out.ext hB5)
            have HS7 := Lib.hid (HS4.out.ext hB5)
            clear hfin hown hb ho hxr hlk
            go_wp2_with fail
            refine (own_any T S _ _ _ _ _ _ _ HT7.out HS7.out (by omega) (by omega)).mono ?_
            rintro e w8 ⟨v8, rfl, hto8, hx8⟩
            obtain ⟨a8, n8, c8, b8, m8, d8, rfl, hT8, hS8, rfl, rfl, _, _⟩ := hto8.views
            have hx9 := hx8.trans (Ext.alloc w8 (.cells #[.slice a8 T.length c8, .slice b8 S.length d8] 25))
            clear hto8 hT8 hS8
            go_upto_region 16 with fail
            generalize (w8.alloc (.cells #[.slice a8 T.length c8, .slice b8 S.length d8] 25)) = w9 at *
            have t0 := ext_cell hx9 t0
            have t1 := ext_cell hx9 t1
            have HT9 := Lib.hid (HT7.out.ext hx9)
            have HS9 := Lib.hid (HS7.out.ext hx9)
            have hfin := own_ext Hfin.out hx9
            have hB9 := below_step hB5 hx9
            have Hfin := Lib.hid hfin
            clear hfin HT7 HS7 hx8 hx9 hB5
            go_cut [13, 14, 15] (NoTab w9)
            case first =>
              have bz0 := ext_cell (Ext.alloc w9 (.cells #[.slice none 0 0, .slice none 0 0] 25)) t0
              have bz1 := ext_cell (Ext.alloc w9 (.cells #[.slice none 0 0, .slice none 0 0] 25)) t1
              go_region_with (first | (go_at_call 13; refine (cut_any s _ hls).mono ?_; rintro e w' ⟨rfl, rfl⟩) | (go_at_call 20; refine (put_no T S (cutT s) a4 _ c4 b4 _ d4 _ (HT9.out.ext (by first | exact Ext.refl _ | exact Ext.drewN _ 1 | exact Ext.alloc _ _ | exact (Ext.drewN _ 1).trans (Ext.alloc _ _) | exact (Ext.alloc _ _).trans (Ext.drewN _ 1))) (HS9.out.ext (by first | exact Ext.refl _ | exact Ext.drewN _ 1 | exact Ext.alloc _ _ | exact (Ext.drewN _ 1).trans (Ext.alloc _ _) | exact (Ext.alloc _ _).trans (Ext.drewN _ 1))) (by omega) HTs.out Hok.out).mono ?_; rintro e wb ⟨rfl, hxb⟩; unfold nilTab; have hxB : Ext w9 wb := Ext.trans (by first | exact Ext.refl _ | exact Ext.drewN _ 1 | exact Ext.alloc _ _ | exact (Ext.drewN _ 1).trans (Ext.alloc _ _) | exact (Ext.alloc _ _).trans (Ext.drewN _ 1)) hxb; try (have hz : RowAt wb w9.heap.size 25 [.slice none 0 0, .slice none 0 0] := RowAt.ext (by first | exact row_at (by simp) | exact (row_at (by simp)).ext (Ext.drewN _ 1)) hxb; obtain ⟨z0, z1, zf0, zf1⟩ := hz.facts)))
              all_goals
                go_wp2_with fail
                go_meet
                first | exact NoTab.new hxB | exact NoTab.put hxB hz (Nat.le_refl _)
            case rest =>
              obtain ⟨B13, rfl, hr13, rfl, rfl, hx13⟩ := hcut
              rename World => w13
              obtain ⟨z0, z1, _, _⟩ := hr13.facts
              have hfin := own_ext Hfin.out hx13
              have Hfin := Lib.hid hfin
              have hB13 := below_step hB9 hx13
              clear hfin hx13 hr13
              go_wp2_with fail
              go_roundg (L.length - (k + 1))
              case measure => have := Hg.out; omega
              case rel => exact ⟨k + 1, by omega, by omega, rfl, by go_num, Hfin.out, hB13⟩
        · have hkl : k = L.length := by omega
          have b0 := ext_cell hxr B0.out
          have b1 := ext_cell hxr B1.out
          obtain ⟨g5, c5, rfl⟩ := own_sl ho
          go_wp2_with fail
          refine (own_any T S _ _ _ _ _ _ _ (HT.out.ext hxr) (HS.out.ext hxr) (by omega) (by omega)).mono ?_
          rintro e wa ⟨va, rfl, htoa, hxa⟩
          obtain ⟨aa, na, ca, ba, ma, da, rfl, hTa, hSa, rfl, rfl, _, _⟩ := htoa.views
          go_wp2_with fail
          refine (all_no T S (cutL L k) aa _ ca ba _ da g5 _ c5 _ hTa hSa (by omega) HTs.out Hok.out).mono ?_
          rintro e wb ⟨rfl, hxb⟩
          unfold nilTab
          go_upto_region 34 with fail
          obtain ⟨z0, z1, _, _⟩ := (show RowAt (wb.alloc (.cells #[.slice none 0 0, .slice none 0 0] 25)) wb.heap.size 25 [.slice none 0 0, .slice none 0 0] from row_at (by simp)).facts
          have hxc := Ext.alloc wb (.cells #[.slice none 0 0, .slice none 0 0] 25)
          generalize (wb.alloc (.cells #[.slice none 0 0, .slice none 0 0] 25)) = wc at *
          go_wp2
          go_ret
          exact ⟨rfl, (((hx1.trans hxr).trans hxa).trans hxb).trans hxc⟩
  · rw [show (decide (n ≤ 40) && decide (m ≤ 128)) = false from by rw [Bool.and_eq_false_iff]; by_cases h : n ≤ 40; exact .inr (decide_eq_false (by omega)); exact .inl (decide_eq_false h)]
    go_wp2
    go_ret
    exact ⟨rfl, hx1⟩
end Go.Proofs.Ytkhmkgobmfhchaa
