/- TableKeeps: the walk. -/
import Derived.Test.YtkhmkgobmfhchaaTabS
import Derived.Test.YtkhmkgobmfhchaaOpenT
namespace Go.Proofs.Ytkhmkgobmfhchaa
set_option linter.unusedSimpArgs false
open Go.RowKit Go.Shelf Go.Sort
set_option linter.unusedVariables false

set_option maxRecDepth 100000 in
set_option maxHeartbeats 4000000 in
theorem keeps_walk (v0 : Value) (T : List ByteArray) (s0 : ByteArray) (w : World)
    (h0 : ∃ S a n c b m e, v0 = .agg #[.slice a n c, .slice b m e] ∧ Strs w (.slice a n c) T ∧ Ints w .i64 (.slice b m e) S ∧ ∀ s ∈ T, s.size ≤ 9223372036854775807)
    (h1 : s0.size ≤ 9223372036854775807) :
    Calls Try.prog 6 #[v0, .string s0] w fun e w' => e = .returned (.bool true) ∧ Ext w w' := by
  obtain ⟨S, a, n, c, b, m, d, rfl, hT, hS, hTs⟩ := h0
  have hlen := Lib.hid hS.len
  have hlenT := Lib.hid hT.len
  have HTs := Lib.hid hTs
  clear hTs
  go_enter Try.func6, Try.ntmps6
  go_upto_region 1 with fail
  have hx1 : Ext w (w.alloc (.cells #[.slice a n c, .slice b m d] 25)) := Ext.alloc _ _
  have b0 : (w.alloc (.cells #[.slice a n c, .slice b m d] 25)).cell? ⟨w.heap.size, 0, none⟩ = some (.slice a n c) := by simp [go_sem]
  have b1 : (w.alloc (.cells #[.slice a n c, .slice b m d] 25)).cell? ⟨w.heap.size, 1, none⟩ = some (.slice b m d) := by simp [go_sem]
  have hT1 := hT.ext hx1
  have hS1 := hS.ext hx1
  generalize (w.alloc (.cells #[.slice a n c, .slice b m d] 25)) = w1 at *
  clear hT hS
  have HS := Lib.hid hS1
  have HT := Lib.hid hT1
  clear hS1 hT1
  go_wp2_with fail
  refine (wakes_any _).mono ?_
  rintro e w2 ⟨rfl, hx2⟩
  have b0 := ext_cell hx2 b0
  have b1 := ext_cell hx2 b1
  have HS := Lib.hid (HS.out.ext hx2)
  have HT := Lib.hid (HT.out.ext hx2)
  have hx1 := hx1.trans hx2
  go_wp2_with fail
  refine (small_any T S _ _ _ _ _ _ _ HT.out HS.out).mono ?_
  rintro e w3 ⟨rfl, hx3⟩
  have b0 := ext_cell hx3 b0
  have b1 := ext_cell hx3 b1
  have HS := Lib.hid (HS.out.ext hx3)
  have HT := Lib.hid (HT.out.ext hx3)
  have hx1 := hx1.trans hx3
  clear hx2 hx3
  by_cases hsm : n ≤ 40 ∧ m ≤ 128
  · have hn40 : T.length ≤ 40 := by have := hlenT.out; omega
    have hm128 : S.length ≤ 128 := by have := hlen.out; omega
    rw [show (decide (n ≤ 40) && decide (m ≤ 128)) = true from by rw [decide_eq_true hsm.1, decide_eq_true hsm.2]; rfl]
    clear hsm
    go_wp2_with fail
    refine (own_any T S _ _ _ _ _ _ _ HT.out HS.out (by omega) (by omega)).mono ?_
    rintro e w4 ⟨v4, rfl, hto, hx4⟩
    obtain ⟨a4, n4, c4, b4, m4, d4, rfl, hT4, hS4, rfl, rfl, hoa, hob⟩ := hto.views
    have HS := Lib.hid (HS.out.ext hx4)
    have HT := Lib.hid (HT.out.ext hx4)
    have b0 := ext_cell hx4 b0
    have b1 := ext_cell hx4 b1
    have hx1 := hx1.trans hx4
    have HT4 := Lib.hid hT4
    have HS4 := Lib.hid hS4
    have HO4 := Lib.hid hto
    clear hx4 hto hoa hob hT4 hS4
    go_upto_region 6 with fail
    have hx5 : Ext w4 (w4.alloc (.cells #[.slice a4 T.length c4, .slice b4 S.length d4] 25)) := Ext.alloc _ _
    have hr5 : RowAt (w4.alloc (.cells #[.slice a4 T.length c4, .slice b4 S.length d4] 25)) w4.heap.size 25 [.slice a4 T.length c4, .slice b4 S.length d4] := RowAt.new w4 25 [.slice a4 T.length c4, .slice b4 S.length d4]
    generalize (w4.alloc (.cells #[.slice a4 T.length c4, .slice b4 S.length d4] 25)) = w5 at *
    have b0 := ext_cell hx5 b0
    have b1 := ext_cell hx5 b1
    have HS := Lib.hid (HS.out.ext hx5)
    have HT := Lib.hid (HT.out.ext hx5)
    have HT4 := Lib.hid (HT4.out.ext hx5)
    have HS4 := Lib.hid (HS4.out.ext hx5)
    have HO4 := Lib.hid (HO4.out.ext hx5)
    have hx1 := hx1.trans hx5
    have t0 := hr5.cell (i := 0) rfl
    have t1 := hr5.cell (i := 1) rfl
    have Hr5 := Lib.hid hr5
    clear hx5 hr5
    go_wp2_with fail
    refine (cut_any s0 _ h1).mono ?_
    rintro e w' ⟨rfl, rfl⟩
    have hcs : (cutT s0).size ≤ 9223372036854775807 := by have := cutT_size s0; omega
    generalize cutT s0 = s at hcs
    by_cases hok : TabOK T S
    · have hput := put_yes T S s a4 T.length c4 b4 S.length d4 w5 HT4.out HS4.out (by omega) HTs.out hcs hok
      cases hpt : putF T S s with
      | none =>
        rw [hpt] at hput
        have Hput := Lib.hid hput
        clear hput hok hpt
        go_wp2_with fail
        refine Hput.out.mono ?_
        rintro e w6 ⟨hx6, rfl⟩
        unfold nilTab
        go_wp2
        go_ret
        exact ⟨rfl, (hx1.trans hx6).trans (Ext.alloc _ _)⟩
      | some r =>
        obtain ⟨T', S', n'⟩ := r
        rw [hpt] at hput
        have hpo := putF_ok hok hpt
        obtain ⟨k, rfl, ⟨hk, hk2⟩, hfk, hall, hcase⟩ := putF_find hok hpt
        have Hput := Lib.hid hput
        have Hpo := Lib.hid hpo
        have Hfk := Lib.hid hfk
        have Hall := Lib.hid hall
        have Hcase := Lib.hid hcase
        have Hok := Lib.hid hok
        have Hk2 := Lib.hid hk2
        have hT1024 := hpo.1.most
        have hS4096 : S'.length ≤ 4096 := by have := hpo.2.2.1; omega
        have HTs' : Hid (∀ x ∈ T', x.size ≤ 9223372036854775807) := Lib.hid (fun x hx => by rcases hpo.2.1 x hx with h | h; exact HTs.out x h; rw [h]; exact hcs)
        clear hput hpo hfk hall hcase hok hk2 hpt
        go_wp2_with fail
        refine Hput.out.mono ?_
        rintro e w6 ⟨hx6, v6, rfl, hto6⟩
        obtain ⟨a6, n6, c6, b6, m6, d6, rfl, hT6, hS6, rfl, rfl, _, _⟩ := hto6.views
        have HT6 := Lib.hid hT6
        have HS6 := Lib.hid hS6
        have t0 := ext_cell hx6 t0
        have t1 := ext_cell hx6 t1
        have hx1 := hx1.trans hx6
        have HT4 := Lib.hid (HT4.out.ext hx6)
        have HS4 := Lib.hid (HS4.out.ext hx6)
        clear hto6 hT6 hS6 hx6
        go_upto_region 8 with fail
        have hx7 : Ext w6 (w6.alloc (.cells #[.slice a6 T'.length c6, .slice b6 S'.length d6] 25)) := Ext.alloc _ _
        have hr7 : RowAt (w6.alloc (.cells #[.slice a6 T'.length c6, .slice b6 S'.length d6] 25)) w6.heap.size 25 [.slice a6 T'.length c6, .slice b6 S'.length d6] := RowAt.new w6 25 [.slice a6 T'.length c6, .slice b6 S'.length d6]
        generalize (w6.alloc (.cells #[.slice a6 T'.length c6, .slice b6 S'.length d6] 25)) = w7 at *
        have g0 := hr7.cell (i := 0) rfl
        have g1 := hr7.cell (i := 1) rfl
        have t0 := ext_cell hx7 t0
        have t1 := ext_cell hx7 t1
        have hx1 := hx1.trans hx7
        have HT4 := Lib.hid (HT4.out.ext hx7)
        have HS4 := Lib.hid (HS4.out.ext hx7)
        have HT6 := Lib.hid (HT6.out.ext hx7)
        have HS6 := Lib.hid (HS6.out.ext hx7)
        clear hr7 hx7
        have hfy := find_yes T' S' s a6 T'.length c6 b6 S'.length d6 w7 HT6.out HS6.out (by omega) HTs'.out hcs Hpo.out.1
        rw [Hfk.out, show max (k : Int) 0 = k from by omega, decide_eq_true (show 0 ≤ (k : Int) by omega)] at hfy
        have Hfy := Lib.hid hfy
        clear hfy
        go_wp2_with fail
        refine Hfy.out.mono ?_
        rintro e w8 ⟨rfl, hx8⟩
        have t0 := ext_cell hx8 t0
        have t1 := ext_cell hx8 t1
        have g0 := ext_cell hx8 g0
        have g1 := ext_cell hx8 g1
        have htx := text_yes T' S' k a6 T'.length c6 b6 S'.length d6 w8 (HT6.out.ext hx8) (HS6.out.ext hx8) (by omega) HTs'.out Hpo.out.1
        rw [show textF T' k = .tuple #[.string s, .int .i64 0] from by unfold textF; rw [if_pos ⟨by omega, by omega⟩, Int.toNat_natCast, getD_at hk, Hk2.out]] at htx
        have Htx := Lib.hid htx
        clear htx
        go_wp2_with fail
        refine Htx.out.mono ?_
        rintro e w9 ⟨rfl, hx9⟩
        have t0 := ext_cell hx9 t0
        have t1 := ext_cell hx9 t1
        have g0 := ext_cell hx9 g0
        have g1 := ext_cell hx9 g1
        have hx79 := Lib.hid (hx8.trans hx9)
        have hput2 := put_yes T' S' s a6 T'.length c6 b6 S'.length d6 w9 (HT6.out.ext hx79.out) (HS6.out.ext hx79.out) (by omega) HTs'.out hcs Hpo.out.1
        rw [putF_old Hpo.out.1 hk Hk2.out] at hput2
        have Hput2 := Lib.hid hput2
        have hx1 := (hx1.trans hx8).trans hx9
        clear hput2 hx8 hx9
        go_wp2_with fail
        refine Hput2.out.mono ?_
        rintro e wa ⟨hxa, va, rfl, htoa⟩
        obtain ⟨aa, na, ca, ba, ma, da, rfl, hTa, hSa, rfl, rfl, _, _⟩ := htoa.views
        have t0 := ext_cell hxa t0
        have t1 := ext_cell hxa t1
        have g0 := ext_cell hxa g0
        have g1 := ext_cell hxa g1
        have HTa := Lib.hid hTa
        have HSa := Lib.hid hSa
        have hx7a := Lib.hid (hx79.out.trans hxa)
        have hx1 := hx1.trans hxa
        clear htoa hTa hSa hxa
        go_upto_region 13 with fail
        have hxb : Ext wa (wa.alloc (.cells #[.slice aa T'.length ca, .slice ba S'.length da] 25)) := Ext.alloc _ _
        have hrb : RowAt (wa.alloc (.cells #[.slice aa T'.length ca, .slice ba S'.length da] 25)) wa.heap.size 25 [.slice aa T'.length ca, .slice ba S'.length da] := RowAt.new wa 25 [.slice aa T'.length ca, .slice ba S'.length da]
        generalize (wa.alloc (.cells #[.slice aa T'.length ca, .slice ba S'.length da] 25)) = wb at *
        have f0 := hrb.cell (i := 0) rfl
        have f1 := hrb.cell (i := 1) rfl
        have t0 := ext_cell hxb t0
        have t1 := ext_cell hxb t1
        have g0 := ext_cell hxb g0
        have g1 := ext_cell hxb g1
        have hx1 := hx1.trans hxb
        have HTa := Lib.hid (HTa.out.ext hxb)
        have HSa := Lib.hid (HSa.out.ext hxb)
        have HT6 := Lib.hid (HT6.out.ext (hx7a.out.trans hxb))
        have HS6 := Lib.hid (HS6.out.ext (hx7a.out.trans hxb))
        have HT4 := Lib.hid (HT4.out.ext (hx7a.out.trans hxb))
        have HS4 := Lib.hid (HS4.out.ext (hx7a.out.trans hxb))
        clear hrb hxb hx7a hx79
        go_wp2_with fail
        refine (equalS_yes _ _ _ _ _ HTa.out HT6.out rfl).mono ?_
        rintro e wc ⟨rfl, nc, rfl⟩
        have hxc := Ext.drewN wb nc
        generalize wb.drewN nc = wc at *
        have t0 := ext_cell hxc t0
        have t1 := ext_cell hxc t1
        have g0 := ext_cell hxc g0
        have g1 := ext_cell hxc g1
        have f0 := ext_cell hxc f0
        have f1 := ext_cell hxc f1
        go_wp2_with fail
        refine (check_yes (HT6.out.ext hxc) (HS6.out.ext hxc) (by omega) HTs'.out Hpo.out.1).mono ?_
        rintro e wd ⟨rfl, hxd⟩
        have t0 := ext_cell hxd t0
        have t1 := ext_cell hxd t1
        have g0 := ext_cell hxd g0
        have g1 := ext_cell hxd g1
        have f0 := ext_cell hxd f0
        have f1 := ext_cell hxd f1
        have hxcd := Lib.hid (hxc.trans hxd)
        go_wp2_with fail
        refine (check_yes (HTa.out.ext hxcd.out) (HSa.out.ext hxcd.out) (by omega) HTs'.out Hpo.out.1).mono ?_
        rintro e we ⟨rfl, hxe⟩
        have t0 := ext_cell hxe t0
        have t1 := ext_cell hxe t1
        have g0 := ext_cell hxe g0
        have g1 := ext_cell hxe g1
        have hxce := Lib.hid (hxcd.out.trans hxe)
        have hx1 := hx1.trans hxce.out
        have HT6 := Lib.hid (HT6.out.ext hxce.out)
        have HS6 := Lib.hid (HS6.out.ext hxce.out)
        have HT4 := Lib.hid (HT4.out.ext hxce.out)
        have HS4 := Lib.hid (HS4.out.ext hxce.out)
        clear f0 f1 hxc hxd hxe hxcd hxce
        go_wp2_with fail
        go_loopg [113] T.length (fun g i wx => ∃ j : Nat, j ≤ T.length ∧ g = T.length - j ∧ i = .int .i64 j ∧ Ext we wx)
        case atStart => exact ⟨0, Nat.zero_le _, rfl, rfl, Ext.refl _⟩
        case round =>
          obtain ⟨j, hj, hg, rfl, hxr⟩ := hrel
          have Hg := Lib.hid hg
          clear hg
          have t0 := ext_cell hxr t0
          have t1 := ext_cell hxr t1
          have g0 := ext_cell hxr g0
          have g1 := ext_cell hxr g1
          by_cases hlt : j < T.length
          · obtain ⟨lb, lO, rfl, hlk⟩ := (HT4.out.ext hxr).atD hlt
            have hls := HTs.out _ (List.getElem_mem hlt)
            have haj := Hall.out j hlt
            rw [getD_at hlt] at hlk
            generalize T[j] = y at hlk hls haj
            have hfy := find_yes T' S' y a6 T'.length c6 b6 S'.length d6 wr (HT6.out.ext hxr) (HS6.out.ext hxr) (by omega) HTs'.out hls Hpo.out.1
            rw [haj, show max (j : Int) 0 = j from by omega, decide_eq_true (show 0 ≤ (j : Int) by omega)] at hfy
            have Hfy := Lib.hid hfy
            clear hfy haj
            go_wp2_with fail
            refine Hfy.out.mono ?_
            rintro e wf ⟨rfl, hxf⟩
            go_wp2_with fail
            go_roundg (T.length - (j + 1))
            case measure => have := Hg.out; omega
            case rel => exact ⟨j + 1, by omega, rfl, by go_num, hxr.trans hxf⟩
          · have hfy := find_yes T S s a4 T.length c4 b4 S.length d4 wr (HT4.out.ext hxr) (HS4.out.ext hxr) (by omega) HTs.out hcs Hok.out
            rcases Hcase.out with ⟨hf, hTT, hSS, hn⟩ | ⟨hf, hs, hTT, hn⟩
            · rw [decide_eq_true hf] at hfy
              have hlen2 : ((T'.length : Int) == (T.length : Int)) = true := by rw [hTT]; simp
              have Hfy := Lib.hid hfy
              clear hfy hf hTT hSS hn
              go_wp2_with fail
              refine Hfy.out.mono ?_
              rintro e wf ⟨rfl, hxf⟩
              have t0 := ext_cell hxf t0
              have t1 := ext_cell hxf t1
              have g0 := ext_cell hxf g0
              have g1 := ext_cell hxf g1
              go_wp2
              go_ret
              exact ⟨rfl, (hx1.trans hxr).trans hxf⟩
            · rw [hf, decide_eq_false (by omega)] at hfy
              have hlen2 : ((T'.length : Int) == (T.length : Int) + 1) = true := by rw [hTT]; simp
              have Hfy := Lib.hid hfy
              clear hfy hf hTT hn hs
              go_wp2_with fail
              refine Hfy.out.mono ?_
              rintro e wf ⟨rfl, hxf⟩
              have t0 := ext_cell hxf t0
              have t1 := ext_cell hxf t1
              have g0 := ext_cell hxf g0
              have g1 := ext_cell hxf g1
              go_wp2
              go_ret
              exact ⟨rfl, (hx1.trans hxr).trans hxf⟩
    · have hput := put_no T S s a4 T.length c4 b4 S.length d4 w5 HT4.out HS4.out (by omega) HTs.out hok
      have Hput := Lib.hid hput
      clear hput hok
      go_wp2_with fail
      refine Hput.out.mono ?_
      rintro e w6 ⟨rfl, hx6⟩
      unfold nilTab
      go_wp2
      go_ret
      exact ⟨rfl, (hx1.trans hx6).trans (Ext.alloc _ _)⟩
  · rw [show (decide (n ≤ 40) && decide (m ≤ 128)) = false from by rw [Bool.and_eq_false_iff]; by_cases h : n ≤ 40; exact .inr (decide_eq_false (by omega)); exact .inl (decide_eq_false h)]
    go_wp2
    go_ret
    exact ⟨rfl, hx1⟩
end Go.Proofs.Ytkhmkgobmfhchaa
