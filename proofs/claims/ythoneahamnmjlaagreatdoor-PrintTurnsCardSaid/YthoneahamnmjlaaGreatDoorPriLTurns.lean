/- PrintTurns: the walk. -/
import Derived.Test.YthoneahamnmjlaaGreatDoorGp33
namespace Go.Proofs.YthoneahamnmjlaaGreatDoor
set_option maxRecDepth 100000
set_option maxHeartbeats 2000000
set_option linter.unusedSimpArgs false
open Go.RowKit Go.Shelf Go.Sort
attribute [local go_sem] Oper.semAt_some wide_fn wide_depth
set_option linter.unusedVariables false

set_option maxRecDepth 100000 in
set_option maxHeartbeats 4000000 in
theorem turns_walk (v nv : Value) (P : Pat) (N : List ByteArray) (w : World) (h : ArgP w v P) (hN : Strs w nv N) (hNs : ∀ s ∈ N, s.size ≤ 9223372036854775807) (hW : Pows w) :
    Calls Tryz.prog 7 #[v, nv] w fun e w' => e = .returned (.bool true) ∧ Ext w w' := by
  have HOW := Lib.hid (fun W hx => h.own W hx)
  have hBF := ownB_fits P
  obtain ⟨a1, a1', a2, a2', a3, a3', rfl⟩ := h.at_.shape
  obtain ⟨na, nc, rfl, hnc1, hnc2⟩ := Sl.shape hN
  have HSN := Lib.hid hN
  have HNZ := Lib.hid hNs
  have HW := Lib.hid hW
  have HBF := Lib.hid hBF
  clear h hN hNs hW hBF
  generalize ownB P = B at *
  go_enter Tryz.func7, Tryz.ntmps7
  go_upto_region 1 with fail
  -- a pattern laid in a box: w the world, w1 the world behind, y2 the box's name, [.slice a1 P.atoms.length a1', .slice a2 P.ret.length a2', .bool P.count, .bool P.distinct, .bool P.limited, .int .i64 P.limit, .int .i64 P.offset, .slice a3 P.hint.length a3'] its cells. Facts: HEy2 (Ext), HRy2 (the row)
  have hxa := Ext.alloc w (.cells #[.slice a1 P.atoms.length a1', .slice a2 P.ret.length a2', .bool P.count, .bool P.distinct, .bool P.limited, .int .i64 P.limit, .int .i64 P.offset, .slice a3 P.hint.length a3'] 25)
  have hra := RowAt.new w 25 [.slice a1 P.atoms.length a1', .slice a2 P.ret.length a2', .bool P.count, .bool P.distinct, .bool P.limited, .int .i64 P.limit, .int .i64 P.offset, .slice a3 P.hint.length a3']
  generalize w.alloc (.cells #[.slice a1 P.atoms.length a1', .slice a2 P.ret.length a2', .bool P.count, .bool P.distinct, .bool P.limited, .int .i64 P.limit, .int .i64 P.offset, .slice a3 P.hint.length a3'] 25) = w1 at *
  obtain ⟨y2, hyn⟩ : ∃ y, w.heap.size = y := ⟨_, rfl⟩
  rw [hyn] at hra
  try simp only [hyn]
  clear hyn
  have HEy2 := Lib.hid hxa
  have HRy2 := Lib.hid hra
  clear hxa hra
  have HX := HEy2
  go_wp2_with fail
  refine (wakesT_any w1 (HW.out.ext HX.out)).mono ?_
  rintro e w2 ⟨rfl, hx2⟩
  replace HX := Lib.hid (HX.out.trans hx2)
  replace HRy2 := Lib.hid (HRy2.out.ext hx2)
  clear hx2 HEy2
  obtain ⟨d0, d1, d2, d3, d4, d5, d6, d7⟩ := row8_facts HRy2.out
  go_wp2_with fail
  refine (HOW.out w2 HX.out).mono ?_
  rintro e w3 ⟨u3, rfl, hp3, hx3⟩
  have HB := Lib.hid hp3.at_
  obtain ⟨b1, b1', b2, b2', b3, b3', rfl⟩ := hp3.at_.shape
  replace HX := Lib.hid (HX.out.trans hx3)
  clear d0 d1 d2 d3 d4 d5 d6 d7 hx3 hp3 HRy2 HOW
  go_upto_region 4 with fail
  -- a pattern laid in a box: w3 the world, w4 the world behind, y5 the box's name, [.slice b1 B.atoms.length b1', .slice b2 B.ret.length b2', .bool B.count, .bool B.distinct, .bool B.limited, .int .i64 B.limit, .int .i64 B.offset, .slice b3 B.hint.length b3'] its cells. Facts: HEy5 (Ext), HRy5 (the row)
  have hxa := Ext.alloc w3 (.cells #[.slice b1 B.atoms.length b1', .slice b2 B.ret.length b2', .bool B.count, .bool B.distinct, .bool B.limited, .int .i64 B.limit, .int .i64 B.offset, .slice b3 B.hint.length b3'] 25)
  have hra := RowAt.new w3 25 [.slice b1 B.atoms.length b1', .slice b2 B.ret.length b2', .bool B.count, .bool B.distinct, .bool B.limited, .int .i64 B.limit, .int .i64 B.offset, .slice b3 B.hint.length b3']
  generalize w3.alloc (.cells #[.slice b1 B.atoms.length b1', .slice b2 B.ret.length b2', .bool B.count, .bool B.distinct, .bool B.limited, .int .i64 B.limit, .int .i64 B.offset, .slice b3 B.hint.length b3'] 25) = w4 at *
  obtain ⟨y5, hyn⟩ : ∃ y, w3.heap.size = y := ⟨_, rfl⟩
  rw [hyn] at hra
  try simp only [hyn]
  clear hyn
  have HEy5 := Lib.hid hxa
  have HRy5 := Lib.hid hra
  clear hxa hra
  replace HX := Lib.hid (HX.out.trans HEy5.out)
  replace HB := Lib.hid (HB.out.ext HEy5.out)
  clear HEy5
  have HV := Lib.hid (varsP_any _ B w4 HB.out HBF.out)
  obtain ⟨d0, d1, d2, d3, d4, d5, d6, d7⟩ := row8_facts HRy5.out
  go_wp2_with fail
  refine HV.out.mono ?_
  rintro e w5 ⟨u5, rfl, ho5, hx5⟩
  have HSV := Lib.hid (show Strs w5 u5 (varsE B) from Sl.of_own ho5)
  obtain ⟨va, vc, rfl⟩ := own_vw ho5
  replace HX := Lib.hid (HX.out.trans hx5)
  replace HB := Lib.hid (HB.out.ext hx5)
  replace HRy5 := Lib.hid (HRy5.out.ext hx5)
  clear d0 d1 d2 d3 d4 d5 d6 d7 hx5 ho5 HV
  have hvw : ∀ s ∈ varsE B, s.size ≤ 9223372036854775800 := by
    unfold varsE
    split
    · rename_i hb
      intro s hs
      have hw := varsS_word (okB_facts hb).2.2.2.2.2.2.2.2.2 s hs
      rw [← wordB_all] at hw
      have := (allB_iff.1 hw).2.2
      rw [bts_len] at this; omega
    · intro s hs; simp at hs
  have HRN := Lib.hid (Rename_any _ _ B (varsE B) w5 HB.out HBF.out HSV.out hvw)
  have HVW := Lib.hid hvw
  clear hvw
  obtain ⟨d0, d1, d2, d3, d4, d5, d6, d7⟩ := row8_facts HRy5.out
  go_wp2_with fail
  refine HRN.out.mono ?_
  rintro e w6 ⟨u6, rfl, hp6, hx6⟩
  have HC := Lib.hid hp6.at_
  obtain ⟨c1, c1', c2, c2', c3, c3', rfl⟩ := hp6.at_.shape
  replace HX := Lib.hid (HX.out.trans hx6)
  replace HB := Lib.hid (HB.out.ext hx6)
  replace HRy5 := Lib.hid (HRy5.out.ext hx6)
  replace HSV := Lib.hid (Strs.ext HSV.out hx6)
  clear d0 d1 d2 d3 d4 d5 d6 d7 hx6 hp6 HRN
  cases hok : B.okB with
  | false =>
    have hv0 : varsE B = [] := by unfold varsE; rw [if_neg (by rw [hok]; decide)]
    have hre : renE B (varsE B) = (noPat, 261) := by unfold renE; rw [if_neg (by rw [hok]; decide)]
    rw [hre] at HC ⊢
    dsimp only at HC ⊢
    go_upto_region 6 with fail
    -- a pattern laid in a box: w6 the world, w7 the world behind, y7 the box's name, [.slice c1 noPat.atoms.length c1', .slice c2 noPat.ret.length c2', .bool noPat.count, .bool noPat.distinct, .bool noPat.limited, .int .i64 noPat.limit, .int .i64 noPat.offset, .slice c3 noPat.hint.length c3'] its cells. Facts: HEy7 (Ext), HRy7 (the row)
    have hxa := Ext.alloc w6 (.cells #[.slice c1 noPat.atoms.length c1', .slice c2 noPat.ret.length c2', .bool noPat.count, .bool noPat.distinct, .bool noPat.limited, .int .i64 noPat.limit, .int .i64 noPat.offset, .slice c3 noPat.hint.length c3'] 25)
    have hra := RowAt.new w6 25 [.slice c1 noPat.atoms.length c1', .slice c2 noPat.ret.length c2', .bool noPat.count, .bool noPat.distinct, .bool noPat.limited, .int .i64 noPat.limit, .int .i64 noPat.offset, .slice c3 noPat.hint.length c3']
    generalize w6.alloc (.cells #[.slice c1 noPat.atoms.length c1', .slice c2 noPat.ret.length c2', .bool noPat.count, .bool noPat.distinct, .bool noPat.limited, .int .i64 noPat.limit, .int .i64 noPat.offset, .slice c3 noPat.hint.length c3'] 25) = w7 at *
    obtain ⟨y7, hyn⟩ : ∃ y, w6.heap.size = y := ⟨_, rfl⟩
    rw [hyn] at hra
    try simp only [hyn]
    clear hyn
    have HEy7 := Lib.hid hxa
    have HRy7 := Lib.hid hra
    clear hxa hra
    replace HX := Lib.hid (HX.out.trans HEy7.out)
    replace HB := Lib.hid (HB.out.ext HEy7.out)
    replace HRy5 := Lib.hid (HRy5.out.ext HEy7.out)
    clear HEy7 HRy7 HC
    have hce : checkE B = 261 := by unfold checkE; rw [if_neg (by rw [hok]; decide)]
    have HCK := Lib.hid (fun w' (hx : Ext w7 w') => checkP_any _ B w' (HB.out.ext hx) HBF.out)
    rw [hce] at HCK
    have hal : alikeB B B = false := by rw [alike_self, hok]
    have HAL := Lib.hid (fun w' (hx : Ext w7 w') => Alike_any _ _ B B w' (HB.out.ext hx) (HB.out.ext hx) HBF.out HBF.out (HW.out.ext (HX.out.trans hx)))
    rw [hal] at HAL
    obtain ⟨d0, d1, d2, d3, d4, d5, d6, d7⟩ := row8_facts HRy5.out
    go_wp2_with fail
    refine (HCK.out _ (Ext.refl _)).mono ?_
    rintro e w8 ⟨rfl, hx8⟩
    have HR8 := Lib.hid (HRy5.out.ext hx8)
    clear d0 d1 d2 d3 d4 d5 d6 d7
    obtain ⟨d0, d1, d2, d3, d4, d5, d6, d7⟩ := row8_facts HR8.out
    go_wp2_with fail
    refine (HAL.out _ hx8).mono ?_
    rintro e w9 ⟨rfl, hx9⟩
    go_wp2
    go_ret
    exact ⟨rfl, HX.out.trans (hx8.trans hx9)⟩
  | true =>
    have hvs : varsE B = varsS B.atoms := by unfold varsE; rw [if_pos hok]
    have hvn := vars_names hok
    have hre : renE B (varsE B) = (B, 0) := by
      unfold renE
      rw [if_pos hok, hvs, if_pos (namesB_iff.2 hvn), ren_self hok]
    rw [hre] at HC ⊢
    dsimp only at HC ⊢
    rw [hvs] at HSV HVW ⊢
    obtain ⟨V, hV⟩ : ∃ V, varsS B.atoms = V := ⟨_, rfl⟩
    rw [hV] at HSV HVW
    simp only [hV]
    have HVE := Lib.hid hV
    have HOK := Lib.hid hok
    have HVN := Lib.hid hvn
    have hv32 : V.length ≤ 32 := by rw [← hV]; exact (okB_facts hok).2.2.2.1
    clear hre hvs hV hvn
    go_upto_region 6 with fail
    -- a pattern laid in a box: w6 the world, w7 the world behind, y7 the box's name, [.slice c1 B.atoms.length c1', .slice c2 B.ret.length c2', .bool B.count, .bool B.distinct, .bool B.limited, .int .i64 B.limit, .int .i64 B.offset, .slice c3 B.hint.length c3'] its cells. Facts: HEy7 (Ext), HRy7 (the row)
    have hxa := Ext.alloc w6 (.cells #[.slice c1 B.atoms.length c1', .slice c2 B.ret.length c2', .bool B.count, .bool B.distinct, .bool B.limited, .int .i64 B.limit, .int .i64 B.offset, .slice c3 B.hint.length c3'] 25)
    have hra := RowAt.new w6 25 [.slice c1 B.atoms.length c1', .slice c2 B.ret.length c2', .bool B.count, .bool B.distinct, .bool B.limited, .int .i64 B.limit, .int .i64 B.offset, .slice c3 B.hint.length c3']
    generalize w6.alloc (.cells #[.slice c1 B.atoms.length c1', .slice c2 B.ret.length c2', .bool B.count, .bool B.distinct, .bool B.limited, .int .i64 B.limit, .int .i64 B.offset, .slice c3 B.hint.length c3'] 25) = w7 at *
    obtain ⟨y7, hyn⟩ : ∃ y, w6.heap.size = y := ⟨_, rfl⟩
    rw [hyn] at hra
    try simp only [hyn]
    clear hyn
    have HEy7 := Lib.hid hxa
    have HRy7 := Lib.hid hra
    clear hxa hra
    replace HX := Lib.hid (HX.out.trans HEy7.out)
    replace HB := Lib.hid (HB.out.ext HEy7.out)
    replace HC := Lib.hid (HC.out.ext HEy7.out)
    replace HRy5 := Lib.hid (HRy5.out.ext HEy7.out)
    replace HSV := Lib.hid (Strs.ext HSV.out HEy7.out)
    clear HEy7
    have HSM := Lib.hid (sameP_any _ _ B B w7 HC.out HB.out (by have := HBF.out.few; omega) (by have := HBF.out.few; omega))
    rw [same_self] at HSM
    obtain ⟨q0, q1, q2, q3, q4, q5, q6, q7⟩ := row8_facts HRy7.out
    obtain ⟨d0, d1, d2, d3, d4, d5, d6, d7⟩ := row8_facts HRy5.out
    go_wp2_with fail
    refine HSM.out.mono ?_
    rintro e w8 ⟨rfl, hx8⟩
    replace HX := Lib.hid (HX.out.trans hx8)
    replace HB := Lib.hid (HB.out.ext hx8)
    replace HRy5 := Lib.hid (HRy5.out.ext hx8)
    replace HSV := Lib.hid (Strs.ext HSV.out hx8)
    clear d0 d1 d2 d3 d4 d5 d6 d7 q0 q1 q2 q3 q4 q5 q6 q7 HSM HRy7 HC hx8
    have hal : alikeB B B = true := by rw [alike_self, hok]
    have HAL := Lib.hid (Alike_any _ _ B B w8 HB.out HB.out HBF.out HBF.out (HW.out.ext HX.out))
    rw [hal] at HAL
    clear hok hal
    obtain ⟨d0, d1, d2, d3, d4, d5, d6, d7⟩ := row8_facts HRy5.out
    go_wp2_with fail
    refine HAL.out.mono ?_
    rintro e w9 ⟨rfl, hx9⟩
    replace HX := Lib.hid (HX.out.trans hx9)
    replace HB := Lib.hid (HB.out.ext hx9)
    replace HRy5 := Lib.hid (HRy5.out.ext hx9)
    replace HSV := Lib.hid (Strs.ext HSV.out hx9)
    clear d0 d1 d2 d3 d4 d5 d6 d7 HAL hx9
    go_wp2_with fail
    go_loopg [9, 54] N.length (fun g l i wr => ∃ k : Nat, k ≤ N.length ∧ g = N.length - k ∧ i = .int .i64 k ∧ wr.ownsRow w9.heap.size 9 1 l ((N.take (min k V.length)).map cut60).length (((N.take (min k V.length)).map cut60).map Value.string) ∧ Ext w9 wr)
    case atStart => exact ⟨0, Nat.zero_le _, rfl, rfl, by rw [Nat.zero_min]; exact World.ownsRow_nil _ _ _ _, Ext.refl _⟩
    case round =>
      obtain ⟨k, hk, hg, rfl, ho, hxr⟩ := hrel
      have Hg := Lib.hid hg
      have HO := Lib.hid ho
      have HXR := Lib.hid hxr
      clear hg ho hxr
      obtain ⟨RX, hRX⟩ : ∃ l, (N.take (min k V.length)).map cut60 = l := ⟨_, rfl⟩
      rw [hRX] at HO
      have HRX := Lib.hid hRX
      clear hRX
      obtain ⟨la, lc, rfl⟩ := own_vw HO.out
      by_cases hlt : k < N.length
      · obtain ⟨b, o, rfl, c0⟩ := Strs.at_ (Strs.ext HSN.out (HX.out.trans HXR.out)) hlt
        have hz := HNZ.out _ (List.getElem_mem hlt)
        by_cases hlt2 : k < V.length
        · have htm := take_min_more cut60 N V.length k hlt hlt2
          rw [HRX.out] at htm
          have HTM := Lib.hid htm
          have HLN : Hid (RX.length ≤ 32) := Lib.hid (by rw [← HRX.out, List.length_map, List.length_take]; omega)
          clear htm HRX
          generalize N[k] = s at *
          have HT1 := Lib.hid (fun w' => textT_any s w' hz)
          generalize cut60 s = s' at *
          clear hz
          go_wp2_with fail
          refine (HT1.out _).mono ?_
          rintro e wt ⟨rfl, hwt⟩
          rw [hwt]
          clear hwt
          have hxa := Ext.alloc wr (.cells #[.string s'] 9)
          have hsl := Sl.new wr #[.string s'] 9 1 1 (Nat.le_refl _) (by unfold maxLen; omega)
          have hbs := HXR.out.size
          have hln := HLN.out
          have hoa := own_ext HO.out hxa
          go_wp2_with (at_builtin; refine wpList_append_sl _ rfl _ _ 23 rfl elStr rfl hoa rfl hsl rfl ?_ ?_ ?_ ?_ ?_)
          · first | rfl | simp [Value.oneCell']
          · omega
          · unfold maxLen; omega
          · first | omega | (simp; omega)
          intro v4 wq hown4 hB4 hg4 hat4
          obtain ⟨xa, xc, rfl⟩ := own_vw hown4
          have HO4 := Lib.hid hown4
          have HXQ := Lib.hid (show Ext w9 wq from Below.trans (HXR.out.trans hxa) hB4)
          clear hown4 hB4 hg4 hat4 hoa hsl hxa HO
          go_wp2_with fail
          go_roundg (N.length - (k + 1))
          case measure => have := Hg.out; omega
          case rel => exact ⟨k + 1, by omega, rfl, by go_num, by rw [HTM.out]; simpa using HO4.out, HXQ.out⟩
        · have HTM : Hid ((N.take (min (k + 1) V.length)).map cut60 = RX) := Lib.hid (by rw [show min (k + 1) V.length = min k V.length by omega]; exact HRX.out)
          clear HRX
          go_wp2_with fail
          go_roundg (N.length - (k + 1))
          case measure => have := Hg.out; omega
          case rel => exact ⟨k + 1, by omega, rfl, by go_num, by rw [HTM.out]; exact HO.out, HXR.out⟩
      · have hL := HRX.out
        have HLL : Hid (RX.length ≤ 32) := Lib.hid (by rw [← hL, List.length_map, List.length_take]; omega)
        have hlw : ∀ s ∈ RX, s.size ≤ 9223372036854775800 := fun s hs => by
          rw [← hL] at hs
          obtain ⟨x, _, rfl⟩ := List.mem_map.1 hs
          have := cut60_size x; omega
        have HSL := Lib.hid (show Strs wr (.slice la RX.length lc) RX from Sl.of_own HO.out)
        clear hL HRX
        replace HX := Lib.hid (HX.out.trans HXR.out)
        replace HB := Lib.hid (HB.out.ext HXR.out)
        replace HRy5 := Lib.hid (HRy5.out.ext HXR.out)
        replace HSV := Lib.hid (Strs.ext HSV.out HXR.out)
        clear HXR HO
        have HRN := Lib.hid (Rename_any _ _ B RX wr HB.out HBF.out HSL.out hlw)
        obtain ⟨d0, d1, d2, d3, d4, d5, d6, d7⟩ := row8_facts HRy5.out
        go_wp2_with fail
        refine HRN.out.mono ?_
        rintro e w10 ⟨u10, rfl, hp10, hx10⟩
        have HE := Lib.hid hp10.at_
        obtain ⟨e1, e1', e2, e2', e3, e3', rfl⟩ := hp10.at_.shape
        replace HX := Lib.hid (HX.out.trans hx10)
        replace HB := Lib.hid (HB.out.ext hx10)
        replace HRy5 := Lib.hid (HRy5.out.ext hx10)
        replace HSV := Lib.hid (Strs.ext HSV.out hx10)
        clear d0 d1 d2 d3 d4 d5 d6 d7 hx10 hp10 HRN HSL hlw
        by_cases hnb : namesB V.length RX = true
        case neg =>
          have hre : renE B RX = (noPat, 2) := by
            unfold renE
            rw [if_pos HOK.out, HVE.out, if_neg hnb]
          rw [hre] at HE ⊢
          dsimp only at HE ⊢
          clear hnb hre
          go_upto_region 18 with fail
          -- a pattern laid in a box: w10 the world, w11 the world behind, y12 the box's name, [.slice e1 noPat.atoms.length e1', .slice e2 noPat.ret.length e2', .bool noPat.count, .bool noPat.distinct, .bool noPat.limited, .int .i64 noPat.limit, .int .i64 noPat.offset, .slice e3 noPat.hint.length e3'] its cells. Facts: HEy12 (Ext), HRy12 (the row)
          have hxa := Ext.alloc w10 (.cells #[.slice e1 noPat.atoms.length e1', .slice e2 noPat.ret.length e2', .bool noPat.count, .bool noPat.distinct, .bool noPat.limited, .int .i64 noPat.limit, .int .i64 noPat.offset, .slice e3 noPat.hint.length e3'] 25)
          have hra := RowAt.new w10 25 [.slice e1 noPat.atoms.length e1', .slice e2 noPat.ret.length e2', .bool noPat.count, .bool noPat.distinct, .bool noPat.limited, .int .i64 noPat.limit, .int .i64 noPat.offset, .slice e3 noPat.hint.length e3']
          generalize w10.alloc (.cells #[.slice e1 noPat.atoms.length e1', .slice e2 noPat.ret.length e2', .bool noPat.count, .bool noPat.distinct, .bool noPat.limited, .int .i64 noPat.limit, .int .i64 noPat.offset, .slice e3 noPat.hint.length e3'] 25) = w11 at *
          obtain ⟨y12, hyn⟩ : ∃ y, w10.heap.size = y := ⟨_, rfl⟩
          rw [hyn] at hra
          try simp only [hyn]
          clear hyn
          have HEy12 := Lib.hid hxa
          have HRy12 := Lib.hid hra
          clear hxa hra
          replace HX := Lib.hid (HX.out.trans HEy12.out)
          obtain ⟨q0, q1, q2, q3, q4, q5, q6, q7⟩ := row8_facts HRy12.out
          have hz : noPat.atoms.length = 0 := rfl
          go_wp2_with fail
          go_ret
          exact ⟨rfl, HX.out⟩
        case pos =>
          have hnr : NamesR (varsS B.atoms) RX := by have := namesB_iff (vars := varsS B.atoms) (names := RX); rw [HVE.out] at this; rw [HVE.out]; exact this.1 hnb
          have hre : renE B RX = (renP B RX, 0) := by
            unfold renE
            rw [if_pos HOK.out, HVE.out, if_pos hnb]
          have hnok := ren_okB HOK.out hnr
          have hnf := ren_fits HOK.out hnr
          have hpl := plain_ren HOK.out hnr
          have hbk : renE (renP B RX) V = (B, 0) := by
            have hl : V.length = (varsS B.atoms).length := by rw [HVE.out]
            have hvv : NamesR (varsS (renP B RX).atoms) V := by
              rw [ren_vars hnr]
              have := HVN.out
              rw [HVE.out] at this
              exact ⟨this.word, this.nodup, by rw [hnr.len, HVE.out]⟩
            unfold renE
            rw [if_pos hnok, if_pos (namesB_iff.2 hvv), ren_ren HOK.out hnr hl]
            have := ren_self HOK.out
            rw [HVE.out] at this
            rw [this]
          have hal : alikeB (renP B RX) B = true := by
            unfold alikeB
            rw [hnok, HOK.out, hpl, same_self]; rfl
          have hce : checkE (renP B RX) = 0 := by unfold checkE; rw [if_pos hnok]
          rw [hre] at HE ⊢
          dsimp only at HE ⊢
          generalize renP B RX = Q at *
          have HQF := Lib.hid hnf
          have HBK := Lib.hid hbk
          have HALE := Lib.hid hal
          have HCE := Lib.hid hce
          clear hnb hnr hre hnok hnf hpl hbk hal hce
          go_upto_region 18 with fail
          -- a pattern laid in a box: w10 the world, w11 the world behind, y12 the box's name, [.slice e1 Q.atoms.length e1', .slice e2 Q.ret.length e2', .bool Q.count, .bool Q.distinct, .bool Q.limited, .int .i64 Q.limit, .int .i64 Q.offset, .slice e3 Q.hint.length e3'] its cells. Facts: HEy12 (Ext), HRy12 (the row)
          have hxa := Ext.alloc w10 (.cells #[.slice e1 Q.atoms.length e1', .slice e2 Q.ret.length e2', .bool Q.count, .bool Q.distinct, .bool Q.limited, .int .i64 Q.limit, .int .i64 Q.offset, .slice e3 Q.hint.length e3'] 25)
          have hra := RowAt.new w10 25 [.slice e1 Q.atoms.length e1', .slice e2 Q.ret.length e2', .bool Q.count, .bool Q.distinct, .bool Q.limited, .int .i64 Q.limit, .int .i64 Q.offset, .slice e3 Q.hint.length e3']
          generalize w10.alloc (.cells #[.slice e1 Q.atoms.length e1', .slice e2 Q.ret.length e2', .bool Q.count, .bool Q.distinct, .bool Q.limited, .int .i64 Q.limit, .int .i64 Q.offset, .slice e3 Q.hint.length e3'] 25) = w11 at *
          obtain ⟨y12, hyn⟩ : ∃ y, w10.heap.size = y := ⟨_, rfl⟩
          rw [hyn] at hra
          try simp only [hyn]
          clear hyn
          have HEy12 := Lib.hid hxa
          have HRy12 := Lib.hid hra
          clear hxa hra
          replace HX := Lib.hid (HX.out.trans HEy12.out)
          replace HB := Lib.hid (HB.out.ext HEy12.out)
          replace HE := Lib.hid (HE.out.ext HEy12.out)
          replace HRy5 := Lib.hid (HRy5.out.ext HEy12.out)
          replace HSV := Lib.hid (Strs.ext HSV.out HEy12.out)
          clear HEy12
          have HRN := Lib.hid (Rename_any _ _ Q V w11 HE.out HQF.out HSV.out HVW.out)
          rw [HBK.out] at HRN
          dsimp only at HRN
          obtain ⟨q0, q1, q2, q3, q4, q5, q6, q7⟩ := row8_facts HRy12.out
          go_wp2_with fail
          refine HRN.out.mono ?_
          rintro e w13 ⟨u13, rfl, hp13, hx13⟩
          have HF := Lib.hid hp13.at_
          obtain ⟨f1, f1', f2, f2', f3, f3', rfl⟩ := hp13.at_.shape
          replace HX := Lib.hid (HX.out.trans hx13)
          replace HB := Lib.hid (HB.out.ext hx13)
          replace HE := Lib.hid (HE.out.ext hx13)
          replace HRy5 := Lib.hid (HRy5.out.ext hx13)
          replace HRy12 := Lib.hid (HRy12.out.ext hx13)
          clear q0 q1 q2 q3 q4 q5 q6 q7 hx13 hp13 HRN
          go_upto_region 21 with fail
          -- a pattern laid in a box: w13 the world, w14 the world behind, y13 the box's name, [.slice f1 B.atoms.length f1', .slice f2 B.ret.length f2', .bool B.count, .bool B.distinct, .bool B.limited, .int .i64 B.limit, .int .i64 B.offset, .slice f3 B.hint.length f3'] its cells. Facts: HEy13 (Ext), HRy13 (the row)
          have hxa := Ext.alloc w13 (.cells #[.slice f1 B.atoms.length f1', .slice f2 B.ret.length f2', .bool B.count, .bool B.distinct, .bool B.limited, .int .i64 B.limit, .int .i64 B.offset, .slice f3 B.hint.length f3'] 25)
          have hra := RowAt.new w13 25 [.slice f1 B.atoms.length f1', .slice f2 B.ret.length f2', .bool B.count, .bool B.distinct, .bool B.limited, .int .i64 B.limit, .int .i64 B.offset, .slice f3 B.hint.length f3']
          generalize w13.alloc (.cells #[.slice f1 B.atoms.length f1', .slice f2 B.ret.length f2', .bool B.count, .bool B.distinct, .bool B.limited, .int .i64 B.limit, .int .i64 B.offset, .slice f3 B.hint.length f3'] 25) = w14 at *
          obtain ⟨y13, hyn⟩ : ∃ y, w13.heap.size = y := ⟨_, rfl⟩
          rw [hyn] at hra
          try simp only [hyn]
          clear hyn
          have HEy13 := Lib.hid hxa
          have HRy13 := Lib.hid hra
          clear hxa hra
          replace HX := Lib.hid (HX.out.trans HEy13.out)
          replace HB := Lib.hid (HB.out.ext HEy13.out)
          replace HE := Lib.hid (HE.out.ext HEy13.out)
          replace HF := Lib.hid (HF.out.ext HEy13.out)
          replace HRy5 := Lib.hid (HRy5.out.ext HEy13.out)
          replace HRy12 := Lib.hid (HRy12.out.ext HEy13.out)
          clear HEy13
          have HAL := Lib.hid (Alike_any _ _ Q B w14 HE.out HB.out HQF.out HBF.out (HW.out.ext HX.out))
          rw [HALE.out] at HAL
          obtain ⟨q0, q1, q2, q3, q4, q5, q6, q7⟩ := row8_facts HRy12.out
          obtain ⟨d0, d1, d2, d3, d4, d5, d6, d7⟩ := row8_facts HRy5.out
          go_wp2_with fail
          refine HAL.out.mono ?_
          rintro e w15 ⟨rfl, hx15⟩
          replace HX := Lib.hid (HX.out.trans hx15)
          replace HB := Lib.hid (HB.out.ext hx15)
          replace HE := Lib.hid (HE.out.ext hx15)
          replace HF := Lib.hid (HF.out.ext hx15)
          replace HRy5 := Lib.hid (HRy5.out.ext hx15)
          replace HRy12 := Lib.hid (HRy12.out.ext hx15)
          replace HRy13 := Lib.hid (HRy13.out.ext hx15)
          clear d0 d1 d2 d3 d4 d5 d6 d7 q0 q1 q2 q3 q4 q5 q6 q7 HAL hx15
          have HSM := Lib.hid (sameP_any _ _ B B w15 HF.out HB.out (by have := HBF.out.few; omega) (by have := HBF.out.few; omega))
          rw [same_self] at HSM
          obtain ⟨q0, q1, q2, q3, q4, q5, q6, q7⟩ := row8_facts HRy13.out
          obtain ⟨d0, d1, d2, d3, d4, d5, d6, d7⟩ := row8_facts HRy5.out
          go_wp2_with fail
          refine HSM.out.mono ?_
          rintro e w16 ⟨rfl, hx16⟩
          replace HX := Lib.hid (HX.out.trans hx16)
          replace HE := Lib.hid (HE.out.ext hx16)
          replace HRy12 := Lib.hid (HRy12.out.ext hx16)
          clear d0 d1 d2 d3 d4 d5 d6 d7 q0 q1 q2 q3 q4 q5 q6 q7 HSM hx16
          have HCK := Lib.hid (checkP_any _ Q w16 HE.out HQF.out)
          rw [HCE.out] at HCK
          obtain ⟨q0, q1, q2, q3, q4, q5, q6, q7⟩ := row8_facts HRy12.out
          go_wp2_with fail
          refine HCK.out.mono ?_
          rintro e w17 ⟨rfl, hx17⟩
          go_wp2
          go_ret
          exact ⟨rfl, HX.out.trans hx17⟩
end Go.Proofs.YthoneahamnmjlaaGreatDoor
