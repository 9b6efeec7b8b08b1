/- TableTells: the walk. -/
import Derived.Test.YtkhmkgobmfhchaaTabN
import Derived.Test.YtkhmkgobmfhchaaOpenT
import Derived.Test.YtkhmkgobmfhchaaOpenS
namespace Go.Proofs.Ytkhmkgobmfhchaa
open Go.RowKit Go.Shelf Go.Sort
set_option linter.unusedVariables false

set_option maxRecDepth 100000 in
set_option maxHeartbeats 4000000 in
theorem tells_walk (v0 : Value) (T : List ByteArray) (v1 : Value) (L : List ByteArray) (v2 : Value) (N : List Int) (w : World)
    (h0 : ∃ S a n c b m e, v0 = .agg #[.slice a n c, .slice b m e] ∧ Strs w (.slice a n c) T ∧ Ints w .i64 (.slice b m e) S ∧ ∀ s ∈ T, s.size ≤ 9223372036854775807)
    (h1 : Strs w v1 L ∧ ∀ s ∈ L, s.size ≤ 9223372036854775807) (h2 : Ints w .i64 v2 N) (h3 : ∀ x ∈ N, -9223372036854775808 ≤ x ∧ x ≤ 9223372036854775807) :
    Calls Try.prog 3 #[v0, v1, v2] w fun e w' => e = .returned (.bool true) ∧ Ext w w' := by
  obtain ⟨hL, hLs⟩ := h1
  obtain ⟨aL, cL, rfl, _, _⟩ := Sl.shape hL
  obtain ⟨aN, cN, rfl, _, _⟩ := Sl.shape h2
  have HL := Lib.hid hL
  have HN := Lib.hid h2
  have HN3 := Lib.hid h3
  have HLs := Lib.hid hLs
  clear hL h2 h3 hLs
  obtain ⟨S, a, n, c, b, m, d, rfl, hT, hS, hTs⟩ := h0
  have hlen := Lib.hid hS.len
  have hlenT := Lib.hid hT.len
  have HTs := Lib.hid hTs
  clear hTs
  go_enter Try.func3, Try.ntmps3
  go_upto_region 1 with fail
  have hx1 : Ext w (w.alloc (.cells #[.slice a n c, .slice b m d] 25)) := Ext.alloc _ _
  have b0 : (w.alloc (.cells #[.slice a n c, .slice b m d] 25)).cell? ⟨w.heap.size, 0, none⟩ = some (.slice a n c) := by simp [go_sem]
  have b1 : (w.alloc (.cells #[.slice a n c, .slice b m d] 25)).cell? ⟨w.heap.size, 1, none⟩ = some (.slice b m d) := by simp [go_sem]
  have hT1 := hT.ext hx1
  have hS1 := hS.ext hx1
  generalize (w.alloc (.cells #[.slice a n c, .slice b m d] 25)) = w1 at *
  clear hT hS
  have HS := Lib.hid hS1
  have HT := Lib.hid hT1
  clear hS1 hT1
  go_wp2_with fail
  refine (wakes_any _).mono ?_
  rintro e w2 ⟨rfl, hx2⟩
  have b0 := ext_cell hx2 b0
  have b1 := ext_cell hx2 b1
  have HS := Lib.hid (HS.out.ext hx2)
  have HT := Lib.hid (HT.out.ext hx2)
  have hx1 := hx1.trans hx2
  go_wp2_with fail
  refine (small_any T S _ _ _ _ _ _ _ HT.out HS.out).mono ?_
  rintro e w3 ⟨rfl, hx3⟩
  have b0 := ext_cell hx3 b0
  have b1 := ext_cell hx3 b1
  have HS := Lib.hid (HS.out.ext hx3)
  have HT := Lib.hid (HT.out.ext hx3)
  have hx1 := hx1.trans hx3
  clear hx2 hx3
  by_cases hsm : n ≤ 40 ∧ m ≤ 128
  · have hn40 : T.length ≤ 40 := by have := hlenT.out; omega
    have hm128 : S.length ≤ 128 := by have := hlen.out; omega
    rw [show (decide (n ≤ 40) && decide (m ≤ 128)) = true from by rw [decide_eq_true hsm.1, decide_eq_true hsm.2]; rfl]
    clear hsm
    go_wp2_with fail
    refine (own_any T S _ _ _ _ _ _ _ HT.out HS.out (by omega) (by omega)).mono ?_
    rintro e w4 ⟨v4, rfl, hto, hx4⟩
    obtain ⟨a4, n4, c4, b4, m4, d4, rfl, hT4, hS4, rfl, rfl, hoa, hob⟩ := hto.views
    have HS := Lib.hid (HS.out.ext hx4)
    have HT := Lib.hid (HT.out.ext hx4)
    have b0 := ext_cell hx4 b0
    have b1 := ext_cell hx4 b1
    have hx1 := hx1.trans hx4
    have HT4 := Lib.hid hT4
    have HS4 := Lib.hid hS4
    have HO4 := Lib.hid hto
    clear hx4 hto hoa hob hT4 hS4
    go_upto_region 6 with fail
    have hx5 : Ext w4 (w4.alloc (.cells #[.slice a4 T.length c4, .slice b4 S.length d4] 25)) := Ext.alloc _ _
    have hr5 : RowAt (w4.alloc (.cells #[.slice a4 T.length c4, .slice b4 S.length d4] 25)) w4.heap.size 25 [.slice a4 T.length c4, .slice b4 S.length d4] := RowAt.new w4 25 [.slice a4 T.length c4, .slice b4 S.length d4]
    generalize (w4.alloc (.cells #[.slice a4 T.length c4, .slice b4 S.length d4] 25)) = w5 at *
    have b0 := ext_cell hx5 b0
    have b1 := ext_cell hx5 b1
    have HS := Lib.hid (HS.out.ext hx5)
    have HT := Lib.hid (HT.out.ext hx5)
    have HT4 := Lib.hid (HT4.out.ext hx5)
    have HS4 := Lib.hid (HS4.out.ext hx5)
    have HO4 := Lib.hid (HO4.out.ext hx5)
    have hx1 := hx1.trans hx5
    have t0 := hr5.cell (i := 0) rfl
    have t1 := hr5.cell (i := 1) rfl
    have Hr5 := Lib.hid hr5
    clear hx5 hr5
    have hrg := right_any T S a4 T.length c4 b4 S.length d4 w5 HT4.out HS4.out (by omega) HTs.out
    have Hrg := Lib.hid hrg
    clear hrg
    go_wp2_with fail
    refine Hrg.out.mono ?_
    rintro e w6 ⟨r, rfl, hr, hx6⟩
    rw [right_iff] at hr
    have Hr := Lib.hid hr
    have t0 := ext_cell hx6 t0
    have t1 := ext_cell hx6 t1
    have b0 := ext_cell hx6 b0
    have b1 := ext_cell hx6 b1
    have hx1 := hx1.trans hx6
    have HT6 := Lib.hid (HT4.out.ext hx6)
    have HS6 := Lib.hid (HS4.out.ext hx6)
    clear hr
    by_cases hok : TabOK T S
    · obtain rfl : r = true := Hr.out.2 hok
      have Hok := Lib.hid hok
      clear hok
      go_wp2_with fail
      refine (check_yes HT6.out HS6.out (by omega) HTs.out Hok.out).mono ?_
      rintro e w7 ⟨rfl, hx7⟩
      have t0 := ext_cell hx7 t0
      have t1 := ext_cell hx7 t1
      have b0 := ext_cell hx7 b0
      have b1 := ext_cell hx7 b1
      have hx1 := hx1.trans hx7
      go_wp2_with fail
      go_loopg [46] L.length (fun g i wx => ∃ k : Nat, k ≤ L.length ∧ g = L.length - k ∧ i = .int .i64 k ∧ Ext w7 wx)
      case atStart => exact ⟨0, Nat.zero_le _, rfl, rfl, Ext.refl _⟩
      case round =>
        obtain ⟨k, hk, hg, rfl, hxr⟩ := hrel
        have Hg := Lib.hid hg
        clear hg
        have t0 := ext_cell hxr t0
        have t1 := ext_cell hxr t1
        have b0 := ext_cell hxr b0
        have b1 := ext_cell hxr b1
        have hx1 := hx1.trans hxr
        have hx67 := Lib.hid (hx7.trans hxr)
        have hx57 := Lib.hid ((hx6.trans hx7).trans hxr)
        by_cases hlt : k < L.length
        · obtain ⟨lb, lO, rfl, hlk⟩ := (Strs.ext HL.out hx1).atD hlt
          have hls := HLs.out _ (List.getElem_mem hlt)
          rw [getD_at hlt] at hlk
          generalize L[k] = s at hlk hls
          by_cases h10 : k = 10
          · have hd : ((k : Int) == 10) = true := by simp; omega
            clear h10
            go_wp2_with fail
            obtain ⟨w8, hwn⟩ : ∃ x, x = wr := ⟨_, rfl⟩
            subst hwn
            go_loopg [86] N.length (fun g i wx => ∃ j : Nat, j ≤ N.length ∧ g = N.length - j ∧ i = .int .i64 j ∧ Ext w8 wx)
            case atStart => exact ⟨0, Nat.zero_le _, rfl, rfl, Ext.refl _⟩
            case round =>
              obtain ⟨j, hj, hg, rfl, hxr⟩ := hrel
              have Hg2 := Lib.hid hg
              clear hg
              have t0 := ext_cell hxr t0
              have t1 := ext_cell hxr t1
              have b0 := ext_cell hxr b0
              have b1 := ext_cell hxr b1
              by_cases hltj : j < N.length
              · obtain ⟨nb, nO, rfl, hnk⟩ := (Ints.ext HN.out (hx1.trans hxr)).atD hltj
                have hnr := HN3.out _ (List.getElem_mem hltj)
                rw [show N.getD j 0 = N[j] from by simp [List.getD, hltj]] at hnk
                generalize N[j] = q at hnk hnr
                by_cases h10 : j = 10
                · have hd : ((j : Int) == 10) = true := by simp; omega
                  clear h10
                  go_wp2_with fail
                  refine (same_any T T S S _ _ _ _ _ _ _ _ _ _ _ _ _ (HT6.out.ext ((hx67.out).trans hxr)) (HS6.out.ext ((hx67.out).trans hxr)) (HT.out.ext (hx57.out.trans hxr)) (HS.out.ext (hx57.out.trans hxr))).mono ?_
                  rintro e wz ⟨rfl, hxz⟩
                  rw [decide_eq_true rfl, decide_eq_true rfl]
                  go_wp2
                  go_ret
                  exact ⟨rfl, (hx1.trans hxr).trans hxz⟩
                · have hd : ((j : Int) == 10) = false := by simp; omega
                  clear h10
                  go_wp2_with fail
                  have hty := text_yes T S q a4 T.length c4 b4 S.length d4 _ (HT6.out.ext (hx67.out.trans hxr)) (HS6.out.ext (hx67.out.trans hxr)) (by omega) HTs.out Hok.out
                  unfold textF at hty
                  by_cases hq0 : 0 ≤ q
                  · by_cases hq1 : q < T.length
                    · rw [if_pos ⟨hq0, hq1⟩] at hty
                      obtain ⟨qn, rfl⟩ := Int.eq_ofNat_of_zero_le hq0
                      obtain ⟨xb, xo, hxa4, hxk⟩ := (HT6.out.ext (hx67.out.trans hxr)).atD (k := qn) (by omega)
                      rw [Int.toNat_natCast] at hty
                      generalize T.getD qn ⟨#[]⟩ = y at hty hxk
                      subst hxa4
                      go_wp2_with fail
                      refine hty.mono ?_
                      rintro e wa ⟨rfl, hxa⟩
                      have t0 := ext_cell hxa t0
                      have t1 := ext_cell hxa t1
                      have b0 := ext_cell hxa b0
                      have b1 := ext_cell hxa b1
                      have hxk := ext_cell hxa hxk
                      go_wp2_with fail
                      go_roundg (N.length - (j + 1))
                      case measure => have := Hg2.out; omega
                      case rel => exact ⟨j + 1, by omega, rfl, by go_num, hxr.trans hxa⟩
                    · rw [if_neg (fun h => hq1 h.2)] at hty
                      go_wp2_with fail
                      refine hty.mono ?_
                      rintro e wa ⟨rfl, hxa⟩
                      have t0 := ext_cell hxa t0
                      have t1 := ext_cell hxa t1
                      have b0 := ext_cell hxa b0
                      have b1 := ext_cell hxa b1
                      go_wp2_with fail
                      go_roundg (N.length - (j + 1))
                      case measure => have := Hg2.out; omega
                      case rel => exact ⟨j + 1, by omega, rfl, by go_num, hxr.trans hxa⟩
                  · rw [if_neg (fun h => hq0 h.1)] at hty
                    go_wp2_with fail
                    refine hty.mono ?_
                    rintro e wa ⟨rfl, hxa⟩
                    have t0 := ext_cell hxa t0
                    have t1 := ext_cell hxa t1
                    have b0 := ext_cell hxa b0
                    have b1 := ext_cell hxa b1
                    go_wp2_with fail
                    go_roundg (N.length - (j + 1))
                    case measure => have := Hg2.out; omega
                    case rel => exact ⟨j + 1, by omega, rfl, by go_num, hxr.trans hxa⟩
              · skip
                go_wp2_with fail
                refine (same_any T T S S _ _ _ _ _ _ _ _ _ _ _ _ _ (HT6.out.ext ((hx67.out).trans hxr)) (HS6.out.ext ((hx67.out).trans hxr)) (HT.out.ext (hx57.out.trans hxr)) (HS.out.ext (hx57.out.trans hxr))).mono ?_
                rintro e wz ⟨rfl, hxz⟩
                rw [decide_eq_true rfl, decide_eq_true rfl]
                go_wp2
                go_ret
                exact ⟨rfl, (hx1.trans hxr).trans hxz⟩
          · have hd : ((k : Int) == 10) = false := by simp; omega
            clear h10
            go_wp2_with fail
            refine (cut_any s _ hls).mono ?_
            rintro e w' ⟨rfl, rfl⟩
            have hcs : (cutT s).size ≤ 9223372036854775807 := by have := cutT_size s; omega
            clear hlk hls
            generalize cutT s = s at hcs
            go_wp2_with fail
            have hfr := findF_range T s
            have hfy := find_yes T S s a4 T.length c4 b4 S.length d4 _ (HT6.out.ext hx67.out) (HS6.out.ext hx67.out) (by omega) HTs.out hcs Hok.out
            have hrf := fun w' (hx : Ext _ w') => refFind_any T s (.slice a4 T.length c4) w' ((HT6.out.ext hx67.out).ext hx)
            generalize findF T s = f at hfy hrf hfr
            have Hrf := Lib.hid hrf
            clear hrf
            by_cases hf : 0 ≤ f
            · have hm1 : max f 0 = f := by omega
              rw [hm1, decide_eq_true hf] at hfy
              go_wp2_with fail
              refine hfy.mono ?_
              rintro e wa ⟨rfl, hxa⟩
              have t0 := ext_cell hxa t0
              have t1 := ext_cell hxa t1
              have b0 := ext_cell hxa b0
              have b1 := ext_cell hxa b1
              go_wp2_with fail
              refine (Hrf.out _ hxa).mono ?_
              rintro e w' ⟨rfl, rfl⟩
              go_wp2_with fail
              refine (hash_any s _ hcs).mono ?_
              rintro e w' ⟨rfl, rfl⟩
              go_wp2_with fail
              refine (refHash_any s _ hcs).mono ?_
              rintro e wd ⟨rfl, nd, rfl⟩
              go_wp2_with fail
              go_roundg (L.length - (k + 1))
              case measure => have := Hg.out; omega
              case rel => exact ⟨k + 1, by omega, rfl, by go_num, (hxr.trans hxa).trans (Ext.drewN _ _)⟩
            · obtain rfl : f = -1 := by omega
              rw [decide_eq_false hf, show max (-1 : Int) 0 = 0 from rfl] at hfy
              go_wp2_with fail
              refine hfy.mono ?_
              rintro e wa ⟨rfl, hxa⟩
              have t0 := ext_cell hxa t0
              have t1 := ext_cell hxa t1
              have b0 := ext_cell hxa b0
              have b1 := ext_cell hxa b1
              go_wp2_with fail
              refine (Hrf.out _ hxa).mono ?_
              rintro e w' ⟨rfl, rfl⟩
              go_wp2_with fail
              refine (hash_any s _ hcs).mono ?_
              rintro e w' ⟨rfl, rfl⟩
              go_wp2_with fail
              refine (refHash_any s _ hcs).mono ?_
              rintro e wd ⟨rfl, nd, rfl⟩
              go_wp2_with fail
              go_roundg (L.length - (k + 1))
              case measure => have := Hg.out; omega
              case rel => exact ⟨k + 1, by omega, rfl, by go_num, (hxr.trans hxa).trans (Ext.drewN _ _)⟩
        · skip
          go_wp2_with fail
          obtain ⟨w8, hwn⟩ : ∃ x, x = wr := ⟨_, rfl⟩
          subst hwn
          go_loopg [86] N.length (fun g i wx => ∃ j : Nat, j ≤ N.length ∧ g = N.length - j ∧ i = .int .i64 j ∧ Ext w8 wx)
          case atStart => exact ⟨0, Nat.zero_le _, rfl, rfl, Ext.refl _⟩
          case round =>
            obtain ⟨j, hj, hg, rfl, hxr⟩ := hrel
            have Hg2 := Lib.hid hg
            clear hg
            have t0 := ext_cell hxr t0
            have t1 := ext_cell hxr t1
            have b0 := ext_cell hxr b0
            have b1 := ext_cell hxr b1
            by_cases hltj : j < N.length
            · obtain ⟨nb, nO, rfl, hnk⟩ := (Ints.ext HN.out (hx1.trans hxr)).atD hltj
              have hnr := HN3.out _ (List.getElem_mem hltj)
              rw [show N.getD j 0 = N[j] from by simp [List.getD, hltj]] at hnk
              generalize N[j] = q at hnk hnr
              by_cases h10 : j = 10
              · have hd : ((j : Int) == 10) = true := by simp; omega
                clear h10
                go_wp2_with fail
                refine (same_any T T S S _ _ _ _ _ _ _ _ _ _ _ _ _ (HT6.out.ext ((hx67.out).trans hxr)) (HS6.out.ext ((hx67.out).trans hxr)) (HT.out.ext (hx57.out.trans hxr)) (HS.out.ext (hx57.out.trans hxr))).mono ?_
                rintro e wz ⟨rfl, hxz⟩
                rw [decide_eq_true rfl, decide_eq_true rfl]
                go_wp2
                go_ret
                exact ⟨rfl, (hx1.trans hxr).trans hxz⟩
              · have hd : ((j : Int) == 10) = false := by simp; omega
                clear h10
                go_wp2_with fail
                have hty := text_yes T S q a4 T.length c4 b4 S.length d4 _ (HT6.out.ext (hx67.out.trans hxr)) (HS6.out.ext (hx67.out.trans hxr)) (by omega) HTs.out Hok.out
                unfold textF at hty
                by_cases hq0 : 0 ≤ q
                · by_cases hq1 : q < T.length
                  · rw [if_pos ⟨hq0, hq1⟩] at hty
                    obtain ⟨qn, rfl⟩ := Int.eq_ofNat_of_zero_le hq0
                    obtain ⟨xb, xo, hxa4, hxk⟩ := (HT6.out.ext (hx67.out.trans hxr)).atD (k := qn) (by omega)
                    rw [Int.toNat_natCast] at hty
                    generalize T.getD qn ⟨#[]⟩ = y at hty hxk
                    subst hxa4
                    go_wp2_with fail
                    refine hty.mono ?_
                    rintro e wa ⟨rfl, hxa⟩
                    have t0 := ext_cell hxa t0
                    have t1 := ext_cell hxa t1
                    have b0 := ext_cell hxa b0
                    have b1 := ext_cell hxa b1
                    have hxk := ext_cell hxa hxk
                    go_wp2_with fail
                    go_roundg (N.length - (j + 1))
                    case measure => have := Hg2.out; omega
                    case rel => exact ⟨j + 1, by omega, rfl, by go_num, hxr.trans hxa⟩
                  · rw [if_neg (fun h => hq1 h.2)] at hty
                    go_wp2_with fail
                    refine hty.mono ?_
                    rintro e wa ⟨rfl, hxa⟩
                    have t0 := ext_cell hxa t0
                    have t1 := ext_cell hxa t1
                    have b0 := ext_cell hxa b0
                    have b1 := ext_cell hxa b1
                    go_wp2_with fail
                    go_roundg (N.length - (j + 1))
                    case measure => have := Hg2.out; omega
                    case rel => exact ⟨j + 1, by omega, rfl, by go_num, hxr.trans hxa⟩
                · rw [if_neg (fun h => hq0 h.1)] at hty
                  go_wp2_with fail
                  refine hty.mono ?_
                  rintro e wa ⟨rfl, hxa⟩
                  have t0 := ext_cell hxa t0
                  have t1 := ext_cell hxa t1
                  have b0 := ext_cell hxa b0
                  have b1 := ext_cell hxa b1
                  go_wp2_with fail
                  go_roundg (N.length - (j + 1))
                  case measure => have := Hg2.out; omega
                  case rel => exact ⟨j + 1, by omega, rfl, by go_num, hxr.trans hxa⟩
            · skip
              go_wp2_with fail
              refine (same_any T T S S _ _ _ _ _ _ _ _ _ _ _ _ _ (HT6.out.ext ((hx67.out).trans hxr)) (HS6.out.ext ((hx67.out).trans hxr)) (HT.out.ext (hx57.out.trans hxr)) (HS.out.ext (hx57.out.trans hxr))).mono ?_
              rintro e wz ⟨rfl, hxz⟩
              rw [decide_eq_true rfl, decide_eq_true rfl]
              go_wp2
              go_ret
              exact ⟨rfl, (hx1.trans hxr).trans hxz⟩
    · obtain rfl : r = false := by cases r with | false => rfl | true => exact absurd (Hr.out.1 rfl) hok
      have Hok := Lib.hid hok
      clear hok
      go_wp2_with fail
      refine (check_no HT6.out HS6.out (by omega) HTs.out Hok.out).mono ?_
      rintro e w7 ⟨rfl, hx7⟩
      have t0 := ext_cell hx7 t0
      have t1 := ext_cell hx7 t1
      have b0 := ext_cell hx7 b0
      have b1 := ext_cell hx7 b1
      have hx1 := hx1.trans hx7
      go_wp2_with fail
      go_loopg [46] L.length (fun g i wx => ∃ k : Nat, k ≤ L.length ∧ g = L.length - k ∧ i = .int .i64 k ∧ Ext w7 wx)
      case atStart => exact ⟨0, Nat.zero_le _, rfl, rfl, Ext.refl _⟩
      case round =>
        obtain ⟨k, hk, hg, rfl, hxr⟩ := hrel
        have Hg := Lib.hid hg
        clear hg
        have t0 := ext_cell hxr t0
        have t1 := ext_cell hxr t1
        have b0 := ext_cell hxr b0
        have b1 := ext_cell hxr b1
        have hx1 := hx1.trans hxr
        have hx67 := Lib.hid (hx7.trans hxr)
        have hx57 := Lib.hid ((hx6.trans hx7).trans hxr)
        by_cases hlt : k < L.length
        · obtain ⟨lb, lO, rfl, hlk⟩ := (Strs.ext HL.out hx1).atD hlt
          have hls := HLs.out _ (List.getElem_mem hlt)
          rw [getD_at hlt] at hlk
          generalize L[k] = s at hlk hls
          by_cases h10 : k = 10
          · have hd : ((k : Int) == 10) = true := by simp; omega
            clear h10
            go_wp2_with fail
            obtain ⟨w8, hwn⟩ : ∃ x, x = wr := ⟨_, rfl⟩
            subst hwn
            go_loopg [86] N.length (fun g i wx => ∃ j : Nat, j ≤ N.length ∧ g = N.length - j ∧ i = .int .i64 j ∧ Ext w8 wx)
            case atStart => exact ⟨0, Nat.zero_le _, rfl, rfl, Ext.refl _⟩
            case round =>
              obtain ⟨j, hj, hg, rfl, hxr⟩ := hrel
              have Hg2 := Lib.hid hg
              clear hg
              have t0 := ext_cell hxr t0
              have t1 := ext_cell hxr t1
              have b0 := ext_cell hxr b0
              have b1 := ext_cell hxr b1
              by_cases hltj : j < N.length
              · obtain ⟨nb, nO, rfl, hnk⟩ := (Ints.ext HN.out (hx1.trans hxr)).atD hltj
                have hnr := HN3.out _ (List.getElem_mem hltj)
                rw [show N.getD j 0 = N[j] from by simp [List.getD, hltj]] at hnk
                generalize N[j] = q at hnk hnr
                by_cases h10 : j = 10
                · have hd : ((j : Int) == 10) = true := by simp; omega
                  clear h10
                  go_wp2_with fail
                  refine (same_any T T S S _ _ _ _ _ _ _ _ _ _ _ _ _ (HT6.out.ext ((hx67.out).trans hxr)) (HS6.out.ext ((hx67.out).trans hxr)) (HT.out.ext (hx57.out.trans hxr)) (HS.out.ext (hx57.out.trans hxr))).mono ?_
                  rintro e wz ⟨rfl, hxz⟩
                  rw [decide_eq_true rfl, decide_eq_true rfl]
                  go_wp2
                  go_ret
                  exact ⟨rfl, (hx1.trans hxr).trans hxz⟩
                · have hd : ((j : Int) == 10) = false := by simp; omega
                  clear h10
                  go_wp2_with fail
                  have hty := text_no T S q a4 T.length c4 b4 S.length d4 _ (HT6.out.ext (hx67.out.trans hxr)) (HS6.out.ext (hx67.out.trans hxr)) (by omega) HTs.out Hok.out
                  go_wp2_with fail
                  refine hty.mono ?_
                  rintro e wa ⟨rfl, hxa⟩
                  have t0 := ext_cell hxa t0
                  have t1 := ext_cell hxa t1
                  have b0 := ext_cell hxa b0
                  have b1 := ext_cell hxa b1
                  go_wp2_with fail
                  go_roundg (N.length - (j + 1))
                  case measure => have := Hg2.out; omega
                  case rel => exact ⟨j + 1, by omega, rfl, by go_num, hxr.trans hxa⟩
              · skip
                go_wp2_with fail
                refine (same_any T T S S _ _ _ _ _ _ _ _ _ _ _ _ _ (HT6.out.ext ((hx67.out).trans hxr)) (HS6.out.ext ((hx67.out).trans hxr)) (HT.out.ext (hx57.out.trans hxr)) (HS.out.ext (hx57.out.trans hxr))).mono ?_
                rintro e wz ⟨rfl, hxz⟩
                rw [decide_eq_true rfl, decide_eq_true rfl]
                go_wp2
                go_ret
                exact ⟨rfl, (hx1.trans hxr).trans hxz⟩
          · have hd : ((k : Int) == 10) = false := by simp; omega
            clear h10
            go_wp2_with fail
            refine (cut_any s _ hls).mono ?_
            rintro e w' ⟨rfl, rfl⟩
            have hcs : (cutT s).size ≤ 9223372036854775807 := by have := cutT_size s; omega
            clear hlk hls
            generalize cutT s = s at hcs
            go_wp2_with fail
            have hfy := find_no T S s a4 T.length c4 b4 S.length d4 _ (HT6.out.ext hx67.out) (HS6.out.ext hx67.out) (by omega) HTs.out Hok.out
            go_wp2_with fail
            refine hfy.mono ?_
            rintro e wa ⟨rfl, hxa⟩
            have t0 := ext_cell hxa t0
            have t1 := ext_cell hxa t1
            have b0 := ext_cell hxa b0
            have b1 := ext_cell hxa b1
            go_wp2_with fail
            refine (hash_any s _ hcs).mono ?_
            rintro e w' ⟨rfl, rfl⟩
            go_wp2_with fail
            refine (refHash_any s _ hcs).mono ?_
            rintro e wd ⟨rfl, nd, rfl⟩
            go_wp2_with fail
            go_roundg (L.length - (k + 1))
            case measure => have := Hg.out; omega
            case rel => exact ⟨k + 1, by omega, rfl, by go_num, (hxr.trans hxa).trans (Ext.drewN _ _)⟩
        · skip
          go_wp2_with fail
          obtain ⟨w8, hwn⟩ : ∃ x, x = wr := ⟨_, rfl⟩
          subst hwn
          go_loopg [86] N.length (fun g i wx => ∃ j : Nat, j ≤ N.length ∧ g = N.length - j ∧ i = .int .i64 j ∧ Ext w8 wx)
          case atStart => exact ⟨0, Nat.zero_le _, rfl, rfl, Ext.refl _⟩
          case round =>
            obtain ⟨j, hj, hg, rfl, hxr⟩ := hrel
            have Hg2 := Lib.hid hg
            clear hg
            have t0 := ext_cell hxr t0
            have t1 := ext_cell hxr t1
            have b0 := ext_cell hxr b0
            have b1 := ext_cell hxr b1
            by_cases hltj : j < N.length
            · obtain ⟨nb, nO, rfl, hnk⟩ := (Ints.ext HN.out (hx1.trans hxr)).atD hltj
              have hnr := HN3.out _ (List.getElem_mem hltj)
              rw [show N.getD j 0 = N[j] from by simp [List.getD, hltj]] at hnk
              generalize N[j] = q at hnk hnr
              by_cases h10 : j = 10
              · have hd : ((j : Int) == 10) = true := by simp; omega
                clear h10
                go_wp2_with fail
                refine (same_any T T S S _ _ _ _ _ _ _ _ _ _ _ _ _ (HT6.out.ext ((hx67.out).trans hxr)) (HS6.out.ext ((hx67.out).trans hxr)) (HT.out.ext (hx57.out.trans hxr)) (HS.out.ext (hx57.out.trans hxr))).mono ?_
                rintro e wz ⟨rfl, hxz⟩
                rw [decide_eq_true rfl, decide_eq_true rfl]
                go_wp2
                go_ret
                exact ⟨rfl, (hx1.trans hxr).trans hxz⟩
              · have hd : ((j : Int) == 10) = false := by simp; omega
                clear h10
                go_wp2_with fail
                have hty := text_no T S q a4 T.length c4 b4 S.length d4 _ (HT6.out.ext (hx67.out.trans hxr)) (HS6.out.ext (hx67.out.trans hxr)) (by omega) HTs.out Hok.out
                go_wp2_with fail
                refine hty.mono ?_
                rintro e wa ⟨rfl, hxa⟩
                have t0 := ext_cell hxa t0
                have t1 := ext_cell hxa t1
                have b0 := ext_cell hxa b0
                have b1 := ext_cell hxa b1
                go_wp2_with fail
                go_roundg (N.length - (j + 1))
                case measure => have := Hg2.out; omega
                case rel => exact ⟨j + 1, by omega, rfl, by go_num, hxr.trans hxa⟩
            · skip
              go_wp2_with fail
              refine (same_any T T S S _ _ _ _ _ _ _ _ _ _ _ _ _ (HT6.out.ext ((hx67.out).trans hxr)) (HS6.out.ext ((hx67.out).trans hxr)) (HT.out.ext (hx57.out.trans hxr)) (HS.out.ext (hx57.out.trans hxr))).mono ?_
              rintro e wz ⟨rfl, hxz⟩
              rw [decide_eq_true rfl, decide_eq_true rfl]
              go_wp2
              go_ret
              exact ⟨rfl, (hx1.trans hxr).trans hxz⟩
  · rw [show (decide (n ≤ 40) && decide (m ≤ 128)) = false from by rw [Bool.and_eq_false_iff]; by_cases h : n ≤ 40; exact .inr (decide_eq_false (by omega)); exact .inl (decide_eq_false h)]
    go_wp2
    go_ret
    exact ⟨rfl, hx1⟩
end Go.Proofs.Ytkhmkgobmfhchaa
