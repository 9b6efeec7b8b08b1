/- TablePuts: the walk where the table is right. -/
import Derived.Test.YtkhmkgobmfhchaaTabX
import Derived.Test.YtkhmkgobmfhchaaTabZ
import Derived.Test.YtkhmkgobmfhchaaOpenT
import Derived.Test.YtkhmkgobmfhchaaOpenS
namespace Go.Proofs.Ytkhmkgobmfhchaa
set_option linter.unusedVariables false
set_option linter.unusedSimpArgs false
open Go.RowKit Go.Shelf Go.Sort

set_option maxRecDepth 100000 in
set_option maxHeartbeats 40000000 in
theorem puts_yes (T : List ByteArray) (S : List Int) (a : Option Addr) (n c : Nat) (b : Option Addr) (m d : Nat) (v1 : Value) (L : List ByteArray) (w : World)
    (hT : Strs w (.slice a n c) T) (hS : Ints w .i64 (.slice b m d) S) (hTs : ∀ s ∈ T, s.size ≤ 9223372036854775807) (hok : TabOK T S)
    (h1 : Strs w v1 L ∧ ∀ s ∈ L, s.size ≤ 9223372036854775807) :
    Calls Try.prog 4 #[.agg #[.slice a n c, .slice b m d], v1] w fun e w' => e = .returned (.bool true) ∧ Ext w w' := by
  obtain ⟨hL, hLs⟩ := h1
  obtain ⟨aL, cL, rfl, _, _⟩ := Sl.shape hL
  have HL := Lib.hid hL
  have HLs := Lib.hid hLs
  have Hok := Lib.hid hok
  clear hL hLs hok
  have hlen := Lib.hid hS.len
  have hlenT := Lib.hid hT.len
  have HTs := Lib.hid hTs
  clear hTs
  go_enter Try.func4, Try.ntmps4
  go_upto_region 1 with fail
  have hx1 : Ext w (w.alloc (.cells #[.slice a n c, .slice b m d] 25)) := Ext.alloc _ _
  have b0 : (w.alloc (.cells #[.slice a n c, .slice b m d] 25)).cell? ⟨w.heap.size, 0, none⟩ = some (.slice a n c) := by simp [go_sem]
  have b1 : (w.alloc (.cells #[.slice a n c, .slice b m d] 25)).cell? ⟨w.heap.size, 1, none⟩ = some (.slice b m d) := by simp [go_sem]
  have hT1 := hT.ext hx1
  have hS1 := hS.ext hx1
  generalize (w.alloc (.cells #[.slice a n c, .slice b m d] 25)) = w1 at *
  clear hT hS
  have HS := Lib.hid hS1
  have HT := Lib.hid hT1
  clear hS1 hT1
  go_wp2_with fail
  refine (wakes_any _).mono ?_
  rintro e w2 ⟨rfl, hx2⟩
  have b0 := ext_cell hx2 b0
  have b1 := ext_cell hx2 b1
  have HS := Lib.hid (HS.out.ext hx2)
  have HT := Lib.hid (HT.out.ext hx2)
  have hx1 := hx1.trans hx2
  go_wp2_with fail
  refine (small_any T S _ _ _ _ _ _ _ HT.out HS.out).mono ?_
  rintro e w3 ⟨rfl, hx3⟩
  have b0 := ext_cell hx3 b0
  have b1 := ext_cell hx3 b1
  have HS := Lib.hid (HS.out.ext hx3)
  have HT := Lib.hid (HT.out.ext hx3)
  have hx1 := hx1.trans hx3
  clear hx2 hx3
  by_cases hsm : n ≤ 40 ∧ m ≤ 128
  · have hn40 : T.length ≤ 40 := by have := hlenT.out; omega
    have hm128 : S.length ≤ 128 := by have := hlen.out; omega
    rw [show (decide (n ≤ 40) && decide (m ≤ 128)) = true from by rw [decide_eq_true hsm.1, decide_eq_true hsm.2]; rfl]
    clear hsm
    go_wp2_with fail
    refine (own_any T S _ _ _ _ _ _ _ HT.out HS.out (by omega) (by omega)).mono ?_
    rintro e w4 ⟨v4, rfl, hto, hx4⟩
    obtain ⟨a4, n4, c4, b4, m4, d4, rfl, _, _, rfl, rfl, hoT, hoS⟩ := hto.views
    have hx5 := hx4.trans (Ext.alloc w4 (.cells #[.slice a4 T.length c4, .slice b4 S.length d4] 25))
    have hI : PutsAt w3 w4.heap.size L 0 0 (.slice a4 T.length c4) (.slice none 0 0) (.slice none 0 0) (w4.alloc (.cells #[.slice a4 T.length c4, .slice b4 S.length d4] 25)) T S [] a4 c4 b4 d4 :=
      ⟨hx5, World.ownsRow_nil _ _ _ _, own_ext hoT (Ext.alloc _ _), World.ownsRow_nil _ _ _ _, RowAt.new w4 25 [.slice a4 T.length c4, .slice b4 S.length d4], own_ext hoT (Ext.alloc _ _), own_ext hoS (Ext.alloc _ _), fun g h => (by cases h), fun g h => (by cases h), fun g h => (by cases h)⟩
    have hs34 := hx4.size
    clear hto hoT hoS hx4 hx5
    go_upto_region 6 with fail
    generalize (w4.alloc (.cells #[.slice a4 T.length c4, .slice b4 S.length d4] 25)) = w5 at *
    obtain ⟨t0, t1, _, _⟩ := hI.box.facts
    have hrg := right_any T S a4 T.length c4 b4 S.length d4 w5 (Sl.of_own hI.oT) (Sl.of_own hI.oS) (by omega) HTs.out
    have HI := Lib.hid hI
    have Hrg := Lib.hid hrg
    clear hrg hI
    go_wp2_with fail
    refine Hrg.out.mono ?_
    rintro e w6 ⟨r, rfl, hr, hx6⟩
    rw [right_iff] at hr
    obtain rfl : r = true := hr.2 Hok.out
    have t0 := ext_cell hx6 t0
    have t1 := ext_cell hx6 t1
    have HI := Lib.hid (HI.out.lift hx6)
    have HP := Lib.hid (PutsIs.zero (L := L) Hok.out HTs.out (by omega))
    have B0 := Lib.hid b0
    have B1 := Lib.hid b1
    clear hr Hrg hx6
    go_wp2_with fail
    clear t0 t1 b0 b1
    go_loopg [7, 8, 9, 37] L.length (fun g s7 s8 s9 i wr => ∃ (k : Nat) (T' : List ByteArray) (S' ns : List Int) (ak : Option Addr) (ck : Nat) (bk : Option Addr) (dk : Nat), k ≤ L.length ∧ k ≤ 12 ∧ g = L.length - k ∧ i = .int .i64 k ∧ PutsAt w3 w4.heap.size L k k s7 s8 s9 wr T' S' ns ak ck bk dk ∧ PutsIs L T S k T' S' ns)
    case atStart => exact ⟨0, T, S, [], _, _, _, _, Nat.zero_le _, by omega, rfl, rfl, HI.out, HP.out⟩
    case round =>
      obtain ⟨k, T', S', ns, ak, ck, bk, dk, hk, hk12, hg, rfl, hI, hP⟩ := hrel
      have Hg := Lib.hid hg
      clear hg
      obtain ⟨g7, c7, rfl⟩ := own_sl hI.o7
      obtain ⟨g8, c8, rfl⟩ := own_sl hI.o8
      obtain ⟨g9, c9, rfl⟩ := own_sl hI.o9
      have hT'l : T'.length ≤ 52 := by have := hP.texts; omega
      have hS'l := hP.slots
      have HPk := Lib.hid hP
      by_cases hlt : k < L.length
      · obtain ⟨lb, lO, rfl, hlk⟩ := (HL.out.ext (hx1.trans hI.ext)).atD hlt
        have hls := HLs.out _ (List.getElem_mem hlt)
        rw [getD_at hlt] at hlk
        have hsn := cutL_snoc L k hlt
        obtain ⟨T2, S2, nn, Hpf, hP2, hn2⟩ := hP.next hlt (by omega)
        generalize L[k] = s at hlk hls hsn Hpf
        have Hsn := Lib.hid hsn
        have HP2 := Lib.hid hP2
        have hT2l : T2.length ≤ 53 := by have := hP2.texts; omega
        have hS2l := hP2.slots
        clear hsn hP hP2
        by_cases h12 : k = 12
        · have hd : ((k : Int) == 12) = true := by simp; omega
          clear h12
          have b0 := ext_cell hI.ext B0.out
          have b1 := ext_cell hI.ext B1.out
          go_wp2_with fail
          refine (own_any T S _ _ _ _ _ _ _ (HT.out.ext hI.ext) (HS.out.ext hI.ext) (by omega) (by omega)).mono ?_
          rintro e wa ⟨va, rfl, htoa, hxa⟩
          obtain ⟨aa, na, ca', ba, ma, da, rfl, hTa, hSa, rfl, rfl, _, _⟩ := htoa.views
          have hIa := hI.lift hxa
          have hall := all_yes T S (cutL L k) aa _ ca' ba _ da (.slice g8 k c8) wa hTa hSa (by have := Sl.of_own hIa.o8; unfold Strs; rw [cutL_len, Nat.min_eq_left hk]; exact this) (by rw [cutL_len]; omega) (cutL_sizes L k) (by omega) HTs.out Hok.out
          rw [HPk.out.all] at hall
          have Hall := Lib.hid hall
          have HIa := Lib.hid hIa
          clear hall hIa hI htoa hTa hSa
          go_wp2_with fail
          refine Hall.out.mono ?_
          rintro e wb ⟨hxb, vb, ub, rfl, htob, houb⟩
          obtain ⟨ab, nb, cb, bb, mb, db, rfl, hTb, hSb, rfl, rfl, _, _⟩ := htob.views
          obtain ⟨gu, cu, rfl⟩ := own_sl houb
          have hNb : Ints wb .i64 (.slice gu ns.length cu) ns := Sl.of_own houb
          have hxab := Ext.alloc wb (.cells #[.slice ab T'.length cb, .slice bb S'.length db] 25)
          have hrc : RowAt (wb.alloc (.cells #[.slice ab T'.length cb, .slice bb S'.length db] 25)) wb.heap.size 25 [.slice ab T'.length cb, .slice bb S'.length db] := RowAt.new wb 25 [.slice ab T'.length cb, .slice bb S'.length db]
          have HIc := Lib.hid (HIa.out.lift (hxb.trans hxab))
          have HNc := Lib.hid (Ints.ext hNb hxab)
          have HTc := Lib.hid (Strs.ext hTb hxab)
          have HSc := Lib.hid (Ints.ext hSb hxab)
          clear htob houb hNb hTb hSb hxab
          go_upto_region 34 with fail
          generalize (wb.alloc (.cells #[.slice ab T'.length cb, .slice bb S'.length db] 25)) = wc at *
          obtain ⟨z0, z1, _, _⟩ := hrc.facts
          have H9c : Hid (Ints wc .i64 (.slice g9 k c9) ns) := Lib.hid (by have := Sl.of_own HIc.out.o9; unfold Ints; rw [HPk.out.len]; exact this)
          have H7c : Hid (Strs wc (.slice g7 T'.length c7) T') := Lib.hid (Sl.of_own HIc.out.o7)
          clear hrc
          go_wp2_with fail
          refine (equalI_yes _ _ ns ns _ HNc.out H9c.out rfl).mono ?_
          rintro e wd ⟨rfl, nd, rfl⟩
          have hxd := Ext.drewN wc nd
          generalize wc.drewN nd = wd at *
          have z0 := ext_cell hxd z0
          have z1 := ext_cell hxd z1
          go_wp2_with fail
          refine (right_any T' S' ab _ cb bb _ db _ (HTc.out.ext hxd) (HSc.out.ext hxd) (by omega) HPk.out.sizes).mono ?_
          rintro e we ⟨r2, rfl, hr2, hxe⟩
          obtain rfl : r2 = true := hr2.2 (right_iff.2 HPk.out.ok)
          clear hr2
          have z0 := ext_cell hxe z0
          have z1 := ext_cell hxe z1
          go_wp2_with fail
          refine (equalS_yes _ _ T' T' _ (HTc.out.ext (hxd.trans hxe)) (H7c.out.ext (hxd.trans hxe)) rfl).mono ?_
          rintro e wf ⟨rfl, nf, rfl⟩
          go_wp2
          go_ret
          exact ⟨rfl, (((hx1.trans HIc.out.ext).trans hxd).trans hxe).trans (Ext.drewN _ _)⟩
        · have hd : ((k : Int) == 12) = false := by simp; omega
          have hk1 : k + 1 ≤ 12 := by omega
          have hsz := hI.ext.size
          have hcs : (cutT s).size ≤ 9223372036854775807 := by have := cutT_size s; omega
          have HI := Lib.hid hI
          clear h12 hI
          go_wp2_with fail
          refine (cut_any s _ hls).mono ?_
          rintro e w' ⟨rfl, rfl⟩
          go_wp2_with (at_builtin; refine wpList_append_sl _ rfl _ _ 22 rfl elS rfl (HI.out.o8.alloc _) rfl (Sl.new _ #[.string (cutT s)] 9 1 1 (Nat.le_refl _) ?_) rfl ?_ ?_ ?_ ?_ ?_)
          · unfold maxLen; omega
          · rfl
          · omega
          · unfold maxLen; omega
          · simp; omega
          intro v8 w7 hown hb hg8 happ
          have hI7 := (HI.out.lift (Ext.alloc wr (.cells #[.string (cutT s)] 9))).grow8 (by rw [Hsn.out, List.map_append]; exact hown) hb hg8 happ
          obtain ⟨ga, ca, rfl⟩ := own_sl hI7.o8
          have HI7 := Lib.hid hI7
          obtain ⟨t0, t1, _, _⟩ := hI7.box.facts
          have HT7 := Lib.hid (show Strs w7 (.slice ak T'.length ck) T' from Sl.of_own hI7.oT)
          have HS7 := Lib.hid (show Ints w7 .i64 (.slice bk S'.length dk) S' from Sl.of_own hI7.oS)
          clear hown hb hg8 happ hI7 hlk
          go_wp2_with fail
          refine (own_any T' S' _ _ _ _ _ _ _ HT7.out HS7.out (by omega) (by omega)).mono ?_
          rintro e w8 ⟨v8, rfl, hto8, hx8⟩
          obtain ⟨a8, n8, c8', b8, m8, d8, rfl, hT8, hS8, rfl, rfl, _, _⟩ := hto8.views
          have hx9 := hx8.trans (Ext.alloc w8 (.cells #[.slice a8 T'.length c8', .slice b8 S'.length d8] 25))
          have hr9 : RowAt (w8.alloc (.cells #[.slice a8 T'.length c8', .slice b8 S'.length d8] 25)) w8.heap.size 25 [.slice a8 T'.length c8', .slice b8 S'.length d8] := RowAt.new w8 25 [.slice a8 T'.length c8', .slice b8 S'.length d8]
          have HT9 := Lib.hid (hT8.ext (Ext.alloc w8 (.cells #[.slice a8 T'.length c8', .slice b8 S'.length d8] 25)))
          have HS9 := Lib.hid (hS8.ext (Ext.alloc w8 (.cells #[.slice a8 T'.length c8', .slice b8 S'.length d8] 25)))
          clear hto8 hT8 hS8
          go_upto_region 16 with fail
          generalize (w8.alloc (.cells #[.slice a8 T'.length c8', .slice b8 S'.length d8] 25)) = w9 at *
          have t0 := ext_cell hx9 t0
          have t1 := ext_cell hx9 t1
          have HI9 := Lib.hid (HI7.out.lift hx9)
          have Hr9 := Lib.hid hr9
          have HTk := Lib.hid (HT7.out.ext hx9)
          have HSk := Lib.hid (HS7.out.ext hx9)
          clear hr9 hx8 hx9 HT7 HS7 HI7 HI
          go_cut [13, 14, 15] (PutAt w9 T2 S2 nn)
          case first =>
            have bz0 := ext_cell (Ext.alloc w9 (.cells #[.slice none 0 0, .slice none 0 0] 25)) t0
            have bz1 := ext_cell (Ext.alloc w9 (.cells #[.slice none 0 0, .slice none 0 0] 25)) t1
            go_region_with (first | (go_at_call 13; refine (cut_any s _ hls).mono ?_; rintro e w' ⟨rfl, rfl⟩) | (go_at_call 20; refine (put_yes T' S' (cutT s) ak _ ck bk _ dk _ (HTk.out.ext (by first | exact Ext.refl _ | exact Ext.drewN _ 1 | exact Ext.alloc _ _ | exact (Ext.drewN _ 1).trans (Ext.alloc _ _) | exact (Ext.alloc _ _).trans (Ext.drewN _ 1))) (HSk.out.ext (by first | exact Ext.refl _ | exact Ext.drewN _ 1 | exact Ext.alloc _ _ | exact (Ext.drewN _ 1).trans (Ext.alloc _ _) | exact (Ext.alloc _ _).trans (Ext.drewN _ 1))) (by omega) HPk.out.sizes hcs HPk.out.ok).mono ?_; rintro e wb hp; rw [Hpf.out] at hp; obtain ⟨hxb, vb, rfl, htob⟩ := hp; obtain ⟨ab, nb, cb, bb, mb, db, rfl, _, _, rfl, rfl, hobT, hobS⟩ := htob.views; have hxB : Ext w9 wb := Ext.trans (by first | exact Ext.refl _ | exact Ext.drewN _ 1 | exact Ext.alloc _ _ | exact (Ext.drewN _ 1).trans (Ext.alloc _ _) | exact (Ext.alloc _ _).trans (Ext.drewN _ 1)) hxb; try (have hz : RowAt wb w9.heap.size 25 [.slice none 0 0, .slice none 0 0] := RowAt.ext (by first | exact row_at (by simp) | exact (row_at (by simp)).ext (Ext.drewN _ 1)) hxb; obtain ⟨z0, z1, zf0, zf1⟩ := hz.facts)))
            all_goals
              go_wp2_with fail
              go_meet
              first | exact PutAt.new hxB hobT hobS (by first | exact Nat.le_refl _ | simp) | exact PutAt.put hxB hobT hobS (by first | exact Nat.le_refl _ | simp) hz (Nat.le_refl _)
          case rest =>
            obtain ⟨X13, aG, cG, bG, dG, rfl, hr13, hoGT, hoGS, rfl, rfl, hx13⟩ := hcut
            rename World => w13
            obtain ⟨z0, z1, _, _⟩ := hr13.facts
            have hI13 := HI9.out.lift hx13
            have hrp := refPut_any T' (cutT s) _ w3.heap.size w13 hI13.o7 (by omega) hI13.ext.size
            rw [(refPut_is Hpf.out).1, (refPut_is Hpf.out).2] at hrp
            have Hrp := Lib.hid hrp
            have HI13 := Lib.hid hI13
            clear hrp hI13 t0 t1
            go_wp2_with fail
            refine (cut_any s _ hls).mono ?_
            rintro e w' ⟨rfl, rfl⟩
            go_wp2_with fail
            refine Hrp.out.mono ?_
            rintro e w14 ⟨u16, rfl, ho16, hx14, hu16⟩
            obtain ⟨g16, c16, rfl⟩ := own_sl ho16
            have hx914 := hx13.trans hx14
            have hG : GotAt w3 w9.heap.size w4.heap.size w8.heap.size X13 L k (.slice g7 T'.length c7) (.slice ga (k + 1) ca) (.slice g9 k c9) (.slice g16 T2.length c16) w14 T' S' ns ak ck bk dk a8 c8' b8 d8 T2 S2 aG cG bG dG :=
              ⟨HI13.out.lift hx14, Hr9.out.ext hx914, HT9.out.ext hx914, HS9.out.ext hx914, hr13.ext hx14, own_ext hoGT hx14, own_ext hoGS hx14, ho16⟩
            have HG := Lib.hid hG
            have HU16 := Lib.hid hu16
            have hs13 := hx13.size
            clear hG hu16 ho16 hoGT hoGS hr13 hx13 hx14 Hrp
            obtain ⟨z0, z1, _, _⟩ := HG.out.r13.facts
            go_wp2_with fail
            refine (right_any T2 S2 aG _ cG bG _ dG _ (Sl.of_own HG.out.o13T) (Sl.of_own HG.out.o13S) (by omega) HP2.out.sizes).mono ?_
            rintro e w15 ⟨r2, rfl, hr2, hx15⟩
            obtain rfl : r2 = true := hr2.2 (right_iff.2 HP2.out.ok)
            have HG := Lib.hid (HG.out.lift hx15)
            have hx915 := hx914.trans hx15
            obtain ⟨z0, z1, _, _⟩ := HG.out.r13.facts
            clear hr2 hx15 hx914
            go_wp2_with fail
            refine (equalS_yes _ _ T2 T2 _ (Sl.of_own HG.out.o13T) (Sl.of_own HG.out.o16) rfl).mono ?_
            rintro e wc ⟨rfl, nc, rfl⟩
            have hxc := Ext.drewN w15 nc
            generalize w15.drewN nc = w16 at *
            have HG := Lib.hid (HG.out.lift hxc)
            have hx916 := hx915.trans hxc
            clear hxc hx915 z0 z1
            obtain ⟨t0, t1, _, _⟩ := HG.out.puts.box.facts
            obtain ⟨q0, q1, _, _⟩ := HG.out.r12.facts
            go_wp2_with fail
            refine (same_any T' T' S' S' _ _ _ _ _ _ _ _ _ _ _ _ _ (Sl.of_own HG.out.puts.oT) (Sl.of_own HG.out.puts.oS) HG.out.t12 HG.out.s12).mono ?_
            rintro e w17 ⟨rfl, hx17⟩
            rw [decide_eq_true rfl, decide_eq_true rfl]
            have HG := Lib.hid (HG.out.lift hx17)
            have hx917 := hx916.trans hx17
            clear hx17 hx916 t0 t1 q0 q1
            have hpos : 0 < S2.length := by have := HP2.out.ok.lt; omega
            obtain ⟨gG, ys, rfl, hgG, hrow, hlenG⟩ := own_row HG.out.o13S hpos
            have hgG17 := hrow.lt
            obtain ⟨z0, z1, _, _⟩ := HG.out.r13.facts
            have Hrow := Lib.hid hrow
            clear hrow
            go_wp2_with fail
            refine (own_any T2 S2 _ _ _ _ _ _ _ (Sl.of_own HG.out.o13T) (Sl.of_own HG.out.o13S) (by omega) (by omega)).mono ?_
            rintro e w18 ⟨v18, rfl, hto18, hx18⟩
            obtain ⟨aH, nH, cH, bH, mH, dH, rfl, _, _, rfl, rfl, hoHT, hoHS⟩ := hto18.views
            have hxal := Ext.alloc w18 (.cells #[.slice aH T2.length cH, .slice bH S2.length dH] 25)
            have hx19 := hx18.trans hxal
            have hr19 : RowAt (w18.alloc (.cells #[.slice aH T2.length cH, .slice bH S2.length dH] 25)) w18.heap.size 25 [.slice aH T2.length cH, .slice bH S2.length dH] := RowAt.new w18 25 [.slice aH T2.length cH, .slice bH S2.length dH]
            have HoHT := Lib.hid (own_ext hoHT hxal)
            have HoHS := Lib.hid (own_ext hoHS hxal)
            clear hto18 hoHT hoHS
            go_upto_region 24 with fail
            generalize (w18.alloc (.cells #[.slice aH T2.length cH, .slice bH S2.length dH] 25)) = w19 at *
            have HG := Lib.hid (HG.out.lift hx19)
            have Hr19 := Lib.hid hr19
            have Hrow := Lib.hid (Hrow.out.ext hx19)
            have HX9 := Lib.hid (hx917.trans hx19)
            have hs17 := hx917.size
            obtain ⟨z0, z1, _, _⟩ := HG.out.r13.facts
            clear hr19 hxal hx18 hx19 hx917
            go_wp2_with fail
            go_loopg [115] S2.length (fun g i wz => ∃ (j : Nat) (xs : List Value), j ≤ S2.length ∧ g = S2.length - j ∧ i = .int .i64 j ∧ RowAt wz gG 3 xs ∧ S2.length ≤ xs.length ∧ w19.grownBy wz (some gG) ∧ Ext w9 wz)
            case atStart => exact ⟨0, ys, Nat.zero_le _, rfl, rfl, Hrow.out, hlenG, ⟨rfl, rfl, rfl, Nat.le_refl _, fun _ _ _ => rfl⟩, HX9.out⟩
            case round =>
              obtain ⟨j, xs, hj, hgj, rfl, hrow, hlenX, hgz, hBz⟩ := hrel
              have Hgj := Lib.hid hgj
              clear hgj z0 z1
              have hne13 : (some gG : Option Nat) ≠ some X13 := fun e => row_ne Hrow.out HG.out.r13 (by decide) (Option.some.inj e)
              have hne19 : (some gG : Option Nat) ≠ some w18.heap.size := fun e => row_ne Hrow.out Hr19.out (by decide) (Option.some.inj e)
              by_cases hltj : j < S2.length
              · obtain ⟨z0, z1, _, _⟩ := (HG.out.r13.kept hgz hne13).facts
                have hcj := hrow.cell (List.getElem?_eq_getElem (show j < xs.length by omega))
                have hfj := hrow.frozen j
                have HR := Lib.hid (hrow.set j (.int .i64 0))
                have HGz := Lib.hid (hgz.trans (grown_set _ gG j (.int .i64 0)))
                have HBz := Lib.hid (hBz.setCell (p := ⟨gG, j, none⟩) hgG (.int .i64 0))
                clear hrow hgz hBz hne13 hne19
                generalize xs[j] = y at hcj
                go_wp2_with fail
                go_roundg (S2.length - (j + 1))
                case measure => have := Hgj.out; omega
                case rel => exact ⟨j + 1, _, by omega, rfl, by go_num, HR.out, by rw [List.length_set]; omega, HGz.out, HBz.out⟩
              · obtain ⟨z0, z1, _, _⟩ := (HG.out.r13.kept hgz hne13).facts
                have hI20 := HI9.out.lift hBz
                obtain ⟨t0, t1, _, _⟩ := hI20.box.facts
                obtain ⟨q0, q1, _, _⟩ := (Hr9.out.ext hBz).facts
                have hr20 := Hr19.out.kept hgz hne19
                have ho16 := own_kept_ne HG.out.o16 hgz (fun g e => by cases e; exact own_apart_type HG.out.o13S HG.out.o16 (by decide) gG rfl)
                have hoT := own_kept_ne HoHT.out hgz (fun g e => by cases e; exact own_apart_type HG.out.o13S HoHT.out (by decide) gG rfl)
                have hoS := own_kept_ne HoHS.out hgz (fun g e => by cases e; intro hv; have := (own_lt HoHS.out hv).1; omega)
                have HI20 := Lib.hid hI20
                have Hr20 := Lib.hid hr20
                have Ho16 := Lib.hid ho16
                have HoT := Lib.hid hoT
                have HoS := Lib.hid hoS
                have HBz := Lib.hid hBz
                clear hrow hgz hBz hne13 hne19 hI20 hr20 ho16 hoT hoS
                go_wp2_with fail
                refine (same_any T' T' S' S' _ _ _ _ _ _ _ _ _ _ _ _ _ (Sl.of_own HI20.out.oT) (Sl.of_own HI20.out.oS) (HT9.out.ext HBz.out) (HS9.out.ext HBz.out)).mono ?_
                rintro e w21 ⟨rfl, hx21⟩
                rw [decide_eq_true rfl, decide_eq_true rfl]
                clear t0 t1 q0 q1 z0 z1
                have hI21 := HI20.out.lift hx21
                have hr21 := Hr20.out.ext hx21
                have hs21 : w9.heap.size ≤ w21.heap.size := (HBz.out.trans hx21).size
                obtain ⟨x0, x1, _, _⟩ := hr21.facts
                have HI21 := Lib.hid hI21
                clear hI21
                go_wp2_with fail
                have hxqa : Ext w21 ((w21.alloc (.cells #[.int .i64 nn] 3)).drewN 1) := (Ext.alloc w21 _).trans (Ext.drewN _ 1)
                have hIq := HI21.out.lift hxqa
                have hslx : Sl ((w21.alloc (.cells #[.int .i64 nn] 3)).drewN 1) _ 1 [.int .i64 nn] := (Sl.new w21 #[.int .i64 nn] 3 1 1 (Nat.le_refl _) (by unfold maxLen; omega)).drewN 1
                have hone : ∀ x ∈ [Value.int .i64 nn], x.oneCell' = true := by intro u hu; simp at hu; subst hu; rfl
                have hbase4 : w3.heap.size ≤ ((w21.alloc (.cells #[.int .i64 nn] 3)).drewN 1).heap.size := hIq.ext.size
                have hmx : k + 1 ≤ maxLen := by unfold maxLen; omega
                have hs39 := HI9.out.ext.size
                have hs317 : w3.heap.size ≤ w17.heap.size := by omega
                have hrq := hr21.ext hxqa
                have h16q := own_ext (own_ext Ho16.out hx21) hxqa
                have hTq := own_base (own_ext (own_ext HoT.out hx21) hxqa) hs317
                have hSq := own_base (own_ext (own_ext HoS.out hx21) hxqa) hs317
                have a816 : Apart (.slice ga (k + 1) ca) (.slice g16 T2.length c16) := fun g h1 h2 => by
                  rcases HU16.out g h2 with h | h
                  · exact HI9.out.a87 g h1 h
                  · have := (own_lt HI9.out.o8 h1).2
                    omega
                have a8H : Apart (.slice ga (k + 1) ca) (.slice aH T2.length cH) := apart_old HI9.out.o8 (Nat.le_refl _) (fun g hg => by have := (own_lt HoT.out hg).1; omega)
                have a9H : Apart (.slice g9 k c9) (.slice bH S2.length dH) := apart_old HI9.out.o9 (Nat.le_refl _) (fun g hg => by have := (own_lt HoS.out hg).1; omega)
                have bz0 := ext_cell (Ext.alloc w21 (.cells #[.int .i64 nn] 3)) x0
                have bz1 := ext_cell (Ext.alloc w21 (.cells #[.int .i64 nn] 3)) x1
                have hx0' := ext_cell hxqa x0
                have hx1' := ext_cell hxqa x1
                have HA := Lib.hid a816
                have HB := Lib.hid a8H
                have HC := Lib.hid a9H
                clear a816 a8H a9H
                go_region_law (refine step_append_sl (by rfl) _ _ 23 (by rfl) elI (by rfl) hIq.o9 (by rfl) hslx (by rfl) hone (by omega) hmx hbase4 ?_; intro v5 w5q hown5 hb5 hg5 happ5; have hbx5 := hIq.box.kept hg5 (row_not_own hIq.box (by decide) hIq.o9); have y0 := hbx5.cell (i := 0) rfl; have y1 := hbx5.cell (i := 1) rfl; have yz0 := hbx5.frozen 0; have yz1 := hbx5.frozen 1; have xx0 : w5q.cell? ⟨w18.heap.size, 0, none⟩ = some (.slice aH T2.length cH) := (hrq.kept hg5 (row_not_own hrq (by decide) hIq.o9)).cell (i := 0) rfl; have xx1 : w5q.cell? ⟨w18.heap.size, 1, none⟩ = some (.slice bH S2.length dH) := (hrq.kept hg5 (row_not_own hrq (by decide) hIq.o9)).cell (i := 1) rfl)
                all_goals
                  have hnew := hIq.turn (ns2 := ns ++ [(nn : Int)]) hs34 (by rw [List.map_append]; exact hown5) hb5 hg5 happ5 h16q hTq hSq HA.out HB.out HC.out
                  have Hnew := Lib.hid hnew
                  clear hnew hown5 hb5 hg5 happ5 hbx5
                  go_wp2_with fail
                  go_roundg (L.length - (k + 1))
                  case measure => have := Hg.out; omega
                  case rel => exact ⟨k + 1, T2, S2, ns ++ [(nn : Int)], _, _, _, _, by omega, hk1, rfl, by go_num, Hnew.out, HP2.out⟩
      · have b0 := ext_cell hI.ext B0.out
        have b1 := ext_cell hI.ext B1.out
        go_wp2_with fail
        refine (own_any T S _ _ _ _ _ _ _ (HT.out.ext hI.ext) (HS.out.ext hI.ext) (by omega) (by omega)).mono ?_
        rintro e wa ⟨va, rfl, htoa, hxa⟩
        obtain ⟨aa, na, ca', ba, ma, da, rfl, hTa, hSa, rfl, rfl, _, _⟩ := htoa.views
        have hIa := hI.lift hxa
        have hall := all_yes T S (cutL L k) aa _ ca' ba _ da (.slice g8 k c8) wa hTa hSa (by have := Sl.of_own hIa.o8; unfold Strs; rw [cutL_len, Nat.min_eq_left hk]; exact this) (by rw [cutL_len]; omega) (cutL_sizes L k) (by omega) HTs.out Hok.out
        rw [HPk.out.all] at hall
        have Hall := Lib.hid hall
        have HIa := Lib.hid hIa
        clear hall hIa hI htoa hTa hSa
        go_wp2_with fail
        refine Hall.out.mono ?_
        rintro e wb ⟨hxb, vb, ub, rfl, htob, houb⟩
        obtain ⟨ab, nb, cb, bb, mb, db, rfl, hTb, hSb, rfl, rfl, _, _⟩ := htob.views
        obtain ⟨gu, cu, rfl⟩ := own_sl houb
        have hNb : Ints wb .i64 (.slice gu ns.length cu) ns := Sl.of_own houb
        have hxab := Ext.alloc wb (.cells #[.slice ab T'.length cb, .slice bb S'.length db] 25)
        have hrc : RowAt (wb.alloc (.cells #[.slice ab T'.length cb, .slice bb S'.length db] 25)) wb.heap.size 25 [.slice ab T'.length cb, .slice bb S'.length db] := RowAt.new wb 25 [.slice ab T'.length cb, .slice bb S'.length db]
        have HIc := Lib.hid (HIa.out.lift (hxb.trans hxab))
        have HNc := Lib.hid (Ints.ext hNb hxab)
        have HTc := Lib.hid (Strs.ext hTb hxab)
        have HSc := Lib.hid (Ints.ext hSb hxab)
        clear htob houb hNb hTb hSb hxab
        go_upto_region 34 with fail
        generalize (wb.alloc (.cells #[.slice ab T'.length cb, .slice bb S'.length db] 25)) = wc at *
        obtain ⟨z0, z1, _, _⟩ := hrc.facts
        have H9c : Hid (Ints wc .i64 (.slice g9 k c9) ns) := Lib.hid (by have := Sl.of_own HIc.out.o9; unfold Ints; rw [HPk.out.len]; exact this)
        have H7c : Hid (Strs wc (.slice g7 T'.length c7) T') := Lib.hid (Sl.of_own HIc.out.o7)
        clear hrc
        go_wp2_with fail
        refine (equalI_yes _ _ ns ns _ HNc.out H9c.out rfl).mono ?_
        rintro e wd ⟨rfl, nd, rfl⟩
        have hxd := Ext.drewN wc nd
        generalize wc.drewN nd = wd at *
        have z0 := ext_cell hxd z0
        have z1 := ext_cell hxd z1
        go_wp2_with fail
        refine (right_any T' S' ab _ cb bb _ db _ (HTc.out.ext hxd) (HSc.out.ext hxd) (by omega) HPk.out.sizes).mono ?_
        rintro e we ⟨r2, rfl, hr2, hxe⟩
        obtain rfl : r2 = true := hr2.2 (right_iff.2 HPk.out.ok)
        clear hr2
        have z0 := ext_cell hxe z0
        have z1 := ext_cell hxe z1
        go_wp2_with fail
        refine (equalS_yes _ _ T' T' _ (HTc.out.ext (hxd.trans hxe)) (H7c.out.ext (hxd.trans hxe)) rfl).mono ?_
        rintro e wf ⟨rfl, nf, rfl⟩
        go_wp2
        go_ret
        exact ⟨rfl, (((hx1.trans HIc.out.ext).trans hxd).trans hxe).trans (Ext.drewN _ _)⟩
  · rw [show (decide (n ≤ 40) && decide (m ≤ 128)) = false from by rw [Bool.and_eq_false_iff]; by_cases h : n ≤ 40; exact .inr (decide_eq_false (by omega)); exact .inl (decide_eq_false h)]
    go_wp2
    go_ret
    exact ⟨rfl, hx1⟩
end Go.Proofs.Ytkhmkgobmfhchaa
