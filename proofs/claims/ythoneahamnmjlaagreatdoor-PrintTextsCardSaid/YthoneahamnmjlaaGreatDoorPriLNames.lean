/- PrintNames: the walk. -/
import Derived.Test.YthoneahamnmjlaaGreatDoorGp36
import Derived.Test.YthoneahamnmjlaaGreatDoorGp37
import Derived.Test.YthoneahamnmjlaaGreatDoorGp38
import Derived.Test.YthoneahamnmjlaaGreatDoorGp24
import Derived.Test.YthoneahamnmjlaaGreatDoorGp25
namespace Go.Proofs.YthoneahamnmjlaaGreatDoor
set_option maxRecDepth 100000
set_option maxHeartbeats 2000000
set_option linter.unusedSimpArgs false
open Go.RowKit Go.Shelf Go.Sort
attribute [local go_sem] Oper.semAt_some wide_fn wide_depth
set_option linter.unusedVariables false

theorem PatIn.extN {B : Nat} {w w' : World} {v : Value} {P : Pat} (h : PatIn B w v P) (hx : Ext w w') : PatIn B w' v P := by
  obtain ⟨av, rv, hv, e, h1, h2, h3⟩ := h
  exact ⟨av, rv, hv, e, own_ext h1 hx, own_ext h2 hx, own_ext h3 hx⟩
/-- What a pattern must be to be spoiled. -/
structure Spl (Q : Pat) : Prop where
  ka : ∀ a ∈ Q.atoms, 0 ≤ a.kind ∧ a.kind ≤ ((1000000 : Nat) : Int)
  sr : ∀ s ∈ Q.ret, s.size ≤ 1000000
  sh : ∀ s ∈ Q.hint, s.size ≤ 1000000
  la : Q.atoms.length ≤ 100000
  lr : Q.ret.length ≤ 100000
  lh : Q.hint.length ≤ 100000
theorem spl_no : Spl noPat := ⟨fun a h => by simp [noPat] at h, fun a h => by simp [noPat] at h, fun a h => by simp [noPat] at h, by decide, by decide, by decide⟩
theorem spl_ok {Q : Pat} (h : Q.okB = true) : Spl Q := by
  obtain ⟨h1, h2, h3, h4, h5, h6, h7, h8, h9, h10⟩ := okB_facts h
  have hw : ∀ s ∈ varsS Q.atoms, s.size ≤ 1000000 := fun s hs => by
    have := varsS_word h10 s hs
    rw [← wordB_all] at this
    have := (allB_iff.1 this).2.2
    rw [bts_len] at this; omega
  have l5 := chosenB_len h5
  have l6 := chosenB_len h6
  refine ⟨fun a ha => ?_, fun s hs => hw s (((chosenB_iff _ _).1 h5).1 s hs), fun s hs => hw s (((chosenB_iff _ _).1 h6).1 s hs), by omega, by omega, by omega⟩
  obtain ⟨_, ⟨hk, _⟩ | ⟨hk, _⟩ | ⟨hk, _⟩ | ⟨hk, _⟩⟩ := atom_facts (List.all_eq_true.1 h10 a ha)
  all_goals (rw [hk]; constructor <;> decide)
theorem spl_ren {P : Pat} {L : List ByteArray} : Spl (renE P L).1 := by
  unfold renE
  split
  · rename_i h1
    split
    · rename_i h2
      exact spl_ok (ren_okB h1 (namesB_iff.1 h2))
    · exact spl_no
  · exact spl_no
theorem patin_row {B : Nat} {w w' : World} {v : Value} {P : Pat} {y : Nat} {ys : List Value} (h : PatIn B w v P) (hr : RowAt w y 25 ys) (hg : w.grownBy w' (some y)) : PatIn B w' v P := by
  obtain ⟨av, rv, hv, e, h1, h2, h3⟩ := h
  exact ⟨av, rv, hv, e, own_turn h1 hr (by decide) hg, own_turn h2 hr (by decide) hg, own_turn h3 hr (by decide) hg⟩
def prG20 : Nat → Gro
  | 0 => .read
  | 1 => .read
  | 2 => .grow
  | 3 => .grow
  | _ => .pure
set_option maxRecDepth 100000 in
set_option maxHeartbeats 4000000 in
theorem names_walk (v nv : Value) (P : Pat) (N : List ByteArray) (w : World) (h : ArgP w v P) (hN : Strs w nv N) (hNs : ∀ s ∈ N, s.size ≤ 9223372036854775807) (hW : Pows w) :
    Calls Tryz.prog 5 #[v, nv] w fun e w' => e = .returned (.bool true) ∧ Ext w w' := by
  have hmo : Tryz.prog.follows .mixedOrders = true := by kernel_rfl
  have HOW := Lib.hid (fun W hx => h.own W hx)
  have hBF := ownB_fits P
  obtain ⟨a1, a1', a2, a2', a3, a3', rfl⟩ := h.at_.shape
  obtain ⟨na, nc, rfl, hnc1, hnc2⟩ := Sl.shape hN
  have HSN := Lib.hid hN
  have HNZ := Lib.hid hNs
  have HW := Lib.hid hW
  have HBF := Lib.hid hBF
  clear h hN hNs hW hBF
  generalize ownB P = B at *
  go_enter Tryz.func5, Tryz.ntmps5
  go_upto_region 1 with fail
  -- a pattern laid in a box: w the world, w1 the world behind, y2 the box's name, [.slice a1 P.atoms.length a1', .slice a2 P.ret.length a2', .bool P.count, .bool P.distinct, .bool P.limited, .int .i64 P.limit, .int .i64 P.offset, .slice a3 P.hint.length a3'] its cells. Facts: HEy2 (Ext), HRy2 (the row)
  have hxa := Ext.alloc w (.cells #[.slice a1 P.atoms.length a1', .slice a2 P.ret.length a2', .bool P.count, .bool P.distinct, .bool P.limited, .int .i64 P.limit, .int .i64 P.offset, .slice a3 P.hint.length a3'] 25)
  have hra := RowAt.new w 25 [.slice a1 P.atoms.length a1', .slice a2 P.ret.length a2', .bool P.count, .bool P.distinct, .bool P.limited, .int .i64 P.limit, .int .i64 P.offset, .slice a3 P.hint.length a3']
  generalize w.alloc (.cells #[.slice a1 P.atoms.length a1', .slice a2 P.ret.length a2', .bool P.count, .bool P.distinct, .bool P.limited, .int .i64 P.limit, .int .i64 P.offset, .slice a3 P.hint.length a3'] 25) = w1 at *
  obtain ⟨y2, hyn⟩ : ∃ y, w.heap.size = y := ⟨_, rfl⟩
  rw [hyn] at hra
  try simp only [hyn]
  clear hyn
  have HEy2 := Lib.hid hxa
  have HRy2 := Lib.hid hra
  clear hxa hra
  have HX := HEy2
  go_wp2_with fail
  refine (wakesT_any w1 (HW.out.ext HX.out)).mono ?_
  rintro e w2 ⟨rfl, hx2⟩
  replace HX := Lib.hid (HX.out.trans hx2)
  replace HRy2 := Lib.hid (HRy2.out.ext hx2)
  clear hx2 HEy2
  obtain ⟨d0, d1, d2, d3, d4, d5, d6, d7⟩ := row8_facts HRy2.out
  go_wp2_with fail
  refine (HOW.out w2 HX.out).mono ?_
  rintro e w3 ⟨u3, rfl, hp3, hx3⟩
  have HB := Lib.hid hp3.at_
  obtain ⟨b1, b1', b2, b2', b3, b3', rfl⟩ := hp3.at_.shape
  replace HX := Lib.hid (HX.out.trans hx3)
  replace HRy2 := Lib.hid (HRy2.out.ext hx3)
  clear d0 d1 d2 d3 d4 d5 d6 d7 hx3 hp3
  go_upto_region 4 with fail
  -- a pattern laid in a box: w3 the world, w4 the world behind, y5 the box's name, [.slice b1 B.atoms.length b1', .slice b2 B.ret.length b2', .bool B.count, .bool B.distinct, .bool B.limited, .int .i64 B.limit, .int .i64 B.offset, .slice b3 B.hint.length b3'] its cells. Facts: HEy5 (Ext), HRy5 (the row)
  have hxa := Ext.alloc w3 (.cells #[.slice b1 B.atoms.length b1', .slice b2 B.ret.length b2', .bool B.count, .bool B.distinct, .bool B.limited, .int .i64 B.limit, .int .i64 B.offset, .slice b3 B.hint.length b3'] 25)
  have hra := RowAt.new w3 25 [.slice b1 B.atoms.length b1', .slice b2 B.ret.length b2', .bool B.count, .bool B.distinct, .bool B.limited, .int .i64 B.limit, .int .i64 B.offset, .slice b3 B.hint.length b3']
  generalize w3.alloc (.cells #[.slice b1 B.atoms.length b1', .slice b2 B.ret.length b2', .bool B.count, .bool B.distinct, .bool B.limited, .int .i64 B.limit, .int .i64 B.offset, .slice b3 B.hint.length b3'] 25) = w4 at *
  obtain ⟨y5, hyn⟩ : ∃ y, w3.heap.size = y := ⟨_, rfl⟩
  rw [hyn] at hra
  try simp only [hyn]
  clear hyn
  have HEy5 := Lib.hid hxa
  have HRy5 := Lib.hid hra
  clear hxa hra
  replace HX := Lib.hid (HX.out.trans HEy5.out)
  replace HB := Lib.hid (HB.out.ext HEy5.out)
  replace HRy2 := Lib.hid (HRy2.out.ext HEy5.out)
  clear HEy5
  go_upto_region 6 with fail
  go_loopg [6, 19] N.length (fun g vx i wr => ∃ k : Nat, k ≤ N.length ∧ g = N.length - k ∧ i = .int .i64 k ∧ Ext w4 wr ∧ wr.ownsRow w4.heap.size 9 1 vx ((N.take (min k 34)).map cut60).length (((N.take (min k 34)).map cut60).map Value.string))
  case atStart => exact ⟨0, Nat.zero_le _, rfl, rfl, Ext.refl _, World.ownsRow_nil _ _ _ _⟩
  case round =>
    obtain ⟨k, hk, hg, rfl, hxw, ho⟩ := hrel
    have Hg := Lib.hid hg
    have HXR := Lib.hid hxw
    have HO := Lib.hid ho
    clear hg hxw ho
    by_cases hlt : k < N.length
    · obtain ⟨b, o, rfl, c0⟩ := Strs.at_ (Strs.ext HSN.out (HX.out.trans HXR.out)) hlt
      have hz := HNZ.out _ (List.getElem_mem hlt)
      by_cases hlt2 : k < 34
      · have HTM := Lib.hid (take_min_more cut60 N 34 k hlt hlt2)
        have HLN : Hid (((N.take (min k 34)).map cut60).length ≤ 34) := Lib.hid (by rw [List.length_map, List.length_take]; omega)
        obtain ⟨RX, hRX⟩ : ∃ l, (N.take (min k 34)).map cut60 = l := ⟨_, rfl⟩
        rw [hRX] at HTM HO HLN
        clear hRX
        obtain ⟨vr, vrc, rfl⟩ := own_vw HO.out
        generalize N[k] = s at *
        have HT1 := Lib.hid (textT_any s wr hz)
        generalize cut60 s = s' at *
        clear hz
        go_wp2_with fail
        refine HT1.out.mono ?_
        rintro e w7 ⟨rfl, hw7⟩
        rw [hw7]
        clear hw7 c0
        have hxa := Ext.alloc wr (.cells #[.string s'] 9)
        have HOA := Lib.hid (own_ext HO.out hxa)
        have HXA := Lib.hid (HXR.out.trans hxa)
        have hbs := HXA.out.size
        have hbs9 := HXR.out.size
        have hln := HLN.out
        go_wp2_with (at_builtin; refine wpList_append_sl _ rfl _ _ 23 rfl elStr rfl HOA.out rfl (Sl.new _ _ _ 1 1 (Nat.le_refl _) ?_) rfl ?_ ?_ ?_ ?_ ?_)
        · unfold maxLen; omega
        · first | rfl | exact ⟨rfl, rfl, rfl, rfl, rfl, rfl, rfl⟩
        · omega
        · unfold maxLen; omega
        · simp; omega
        intro v4 w10 hown4 hB4 hg4 hat4
        have HXN := Lib.hid (HXA.out.grown hg4 hbs (own_ge HOA.out))
        have HON := Lib.hid (show w10.ownsRow w4.heap.size 9 1 v4 (RX ++ [s']).length ((RX ++ [s']).map Value.string) by rw [List.length_append, List.map_append]; exact hown4)
        clear hown4 hB4 hg4 hat4 hxa HO HOA HXA hbs hbs9 hln
        go_wp2_with fail
        go_roundg (N.length - (k + 1))
        case measure => have := Hg.out; omega
        case rel => exact ⟨k + 1, by omega, rfl, by go_num, HXN.out, by rw [HTM.out]; exact HON.out⟩
      · have HTM : Hid ((N.take (min (k + 1) 34)).map cut60 = (N.take (min k 34)).map cut60) := Lib.hid (by rw [show min (k + 1) 34 = min k 34 by omega])
        generalize N[k] = s at *
        clear hz
        go_wp2_with fail
        go_roundg (N.length - (k + 1))
        case measure => have := Hg.out; omega
        case rel => exact ⟨k + 1, by omega, rfl, by go_num, HXR.out, by rw [HTM.out]; exact HO.out⟩
    · have he : k = N.length := by omega
      have hfin : (N.take (min k 34)).map cut60 = (N.take 34).map cut60 := by rw [he, Nat.min_comm, ← List.take_eq_take_min]
      rw [hfin] at HO
      clear hfin
      have hsz : ∀ s ∈ (N.take 34).map cut60, s.size ≤ 9223372036854775800 := fun s hs => by
        obtain ⟨t, _, rfl⟩ := List.mem_map.1 hs
        have := cut60_size t
        omega
      obtain ⟨L, hL⟩ : ∃ l, (N.take 34).map cut60 = l := ⟨_, rfl⟩
      rw [hL] at HO hsz
      have HSZ := Lib.hid hsz
      clear hL hsz
      obtain ⟨la, lc, rfl⟩ := own_vw HO.out
      replace HX := Lib.hid (HX.out.trans HXR.out)
      replace HB := Lib.hid (HB.out.ext HXR.out)
      replace HRy5 := Lib.hid (HRy5.out.ext HXR.out)
      replace HRy2 := Lib.hid (HRy2.out.ext HXR.out)
      have HSL := Lib.hid (show Strs wr (.slice la L.length lc) L from Sl.of_own HO.out)
      clear HO HXR Hg HSN HNZ
      have HRN := Lib.hid (Rename_any _ _ B L wr HB.out HBF.out HSL.out HSZ.out)
      obtain ⟨d0, d1, d2, d3, d4, d5, d6, d7⟩ := row8_facts HRy5.out
      go_wp2_with fail
      clear he hlt
      refine HRN.out.mono ?_
      rintro e w6 ⟨u6, rfl, hp6, hx6⟩
      obtain ⟨Q, cd, hq⟩ : ∃ Q cd, renE B L = (Q, cd) := ⟨_, _, rfl⟩
      rw [hq] at hp6 ⊢
      dsimp only at hp6 ⊢
      have HRE := Lib.hid hq
      have HI := Lib.hid hp6
      obtain ⟨c1, c1', c2, c2', c3, c3', rfl⟩ := hp6.at_.shape
      have HXZ := Lib.hid hx6
      clear hx6 hp6 d0 d1 d2 d3 d4 d5 d6 d7 HRN hq
      go_upto_region 12 with fail
      -- a pattern laid in a box: w6 the world, w7 the world behind, y9 the box's name, [.slice c1 Q.atoms.length c1', .slice c2 Q.ret.length c2', .bool Q.count, .bool Q.distinct, .bool Q.limited, .int .i64 Q.limit, .int .i64 Q.offset, .slice c3 Q.hint.length c3'] its cells. Facts: HEy9 (Ext), HRy9 (the row)
      have hxa := Ext.alloc w6 (.cells #[.slice c1 Q.atoms.length c1', .slice c2 Q.ret.length c2', .bool Q.count, .bool Q.distinct, .bool Q.limited, .int .i64 Q.limit, .int .i64 Q.offset, .slice c3 Q.hint.length c3'] 25)
      have hra := RowAt.new w6 25 [.slice c1 Q.atoms.length c1', .slice c2 Q.ret.length c2', .bool Q.count, .bool Q.distinct, .bool Q.limited, .int .i64 Q.limit, .int .i64 Q.offset, .slice c3 Q.hint.length c3']
      generalize w6.alloc (.cells #[.slice c1 Q.atoms.length c1', .slice c2 Q.ret.length c2', .bool Q.count, .bool Q.distinct, .bool Q.limited, .int .i64 Q.limit, .int .i64 Q.offset, .slice c3 Q.hint.length c3'] 25) = w7 at *
      obtain ⟨y9, hyn⟩ : ∃ y, w6.heap.size = y := ⟨_, rfl⟩
      rw [hyn] at hra
      try simp only [hyn]
      clear hyn
      have HEy9 := Lib.hid hxa
      have HRy9 := Lib.hid hra
      clear hxa hra
      replace HXZ := Lib.hid (HXZ.out.trans HEy9.out)
      replace HI := Lib.hid (HI.out.extN HEy9.out)
      clear HEy9
      go_upto_region 13 with fail
      have HLT := Lib.hid (show y9 < w7.heap.size ∧ wr.heap.size ≤ w7.heap.size from ⟨HRy9.out.lt, HXZ.out.size⟩)
      have hxa := Ext.alloc w7 (.cells #[.slice none 0 0, .slice none 0 0, .bool false, .bool false, .bool false, .int .i64 0, .int .i64 0, .slice none 0 0] 25)
      have hra := RowAt.new w7 25 [.slice none 0 0, .slice none 0 0, .bool false, .bool false, .bool false, .int .i64 0, .int .i64 0, .slice none 0 0]
      generalize w7.alloc (.cells #[.slice none 0 0, .slice none 0 0, .bool false, .bool false, .bool false, .int .i64 0, .int .i64 0, .slice none 0 0] 25) = w8 at *
      obtain ⟨y11, hyn⟩ : ∃ y, w7.heap.size = y := ⟨_, rfl⟩
      rw [hyn] at hra HLT
      try simp only [hyn]
      clear hyn
      have HEy11 := Lib.hid hxa
      have HRy11 := Lib.hid hra
      clear hxa hra
      replace HXZ := Lib.hid (HXZ.out.trans HEy11.out)
      replace HI := Lib.hid (HI.out.extN HEy11.out)
      have HRq := Lib.hid (HRy9.out.ext HEy11.out)
      clear HEy11 HRy9
      have HSP := Lib.hid (show Spl Q by have := @spl_ren B L; rw [HRE.out] at this; exact this)
      have HRT := Lib.hid (right16_any _ B w8 (HB.out.ext HXZ.out) HBF.out)
      have HS5 := Lib.hid (HRy5.out.ext HXZ.out)
      obtain ⟨d0, d1, d2, d3, d4, d5, d6, d7⟩ := row8_facts HS5.out
      go_wp2_with fail
      refine HRT.out.mono ?_
      rintro e w9 ⟨rfl, hx9⟩
      replace HXZ := Lib.hid (HXZ.out.trans hx9)
      replace HI := Lib.hid (HI.out.extN hx9)
      replace HRq := Lib.hid (HRq.out.ext hx9)
      have HRz := Lib.hid (HRy11.out.ext hx9)
      clear d0 d1 d2 d3 d4 d5 d6 d7 hx9 HRy11 HS5 HRT
      cases hok : B.okB with
      | false =>
        have hre : renE B L = (noPat, 261) := by unfold renE; rw [if_neg (by rw [hok]; decide)]
        obtain ⟨hq1, hq2⟩ := Prod.mk.inj (HRE.out.symm.trans hre)
        subst hq2
        have HA11 := Lib.hid (show PatAt w9 (.agg #[.slice none 0 0, .slice none 0 0, .bool false, .bool false, .bool false, .int .i64 0, .int .i64 0, .slice none 0 0]) Q by rw [hq1]; exact (noPat_in 0 w9).at_)
        clear hre HRE hok hq1
        go_upto_region 17 with fail
        obtain ⟨wz, hwz⟩ : ∃ x, w9 = x := ⟨_, rfl⟩
        rw [hwz] at HXZ HI HRq HRz HA11 ⊢
        clear hwz
        have HR9 := HRq
        have HR11 := HRz
        have HI9 := HI
        clear HRq HRz HI
        -- PrintNames, from region 17 on: world wz; HR9 HR11 (boxes), HI9 (PatIn of the one), HA11 (PatAt of the other), HXZ (Ext wr wz), HSP (Spl Q)
        have HSM := Lib.hid (same16_any _ _ Q Q wz HI9.out.at_ HA11.out (by have := HSP.out.la; omega) (by have := HSP.out.la; omega))
        rw [same_self] at HSM
        obtain ⟨d0, d1, d2, d3, d4, d5, d6, d7⟩ := row8_facts HR9.out
        obtain ⟨r0, r1, r2, r3, r4, r5, r6, r7⟩ := row8_facts HR11.out
        go_wp2_with fail
        refine HSM.out.mono ?_
        rintro e wa ⟨rfl, hxa⟩
        replace HXZ := Lib.hid (HXZ.out.trans hxa)
        replace HI9 := Lib.hid (HI9.out.extN hxa)
        replace HR9 := Lib.hid (HR9.out.ext hxa)
        clear d0 d1 d2 d3 d4 d5 d6 d7 r0 r1 r2 r3 r4 r5 r6 r7 HR11 HA11 HSM hxa
        have HSPO := Lib.hid (spoil_any _ Q wr.heap.size wa HI9.out HXZ.out.size HSP.out.ka HSP.out.sr HSP.out.sh HSP.out.la HSP.out.lr HSP.out.lh)
        obtain ⟨d0, d1, d2, d3, d4, d5, d6, d7⟩ := row8_facts HR9.out
        go_wp2_with fail
        refine HSPO.out.mono ?_
        rintro e wb ⟨rfl, hxb⟩
        have HXB := Lib.hid (show Ext wr wb from Below.trans HXZ.out hxb)
        clear d0 d1 d2 d3 d4 d5 d6 d7 hxb HXZ HI9 HR9 HSPO HSP
        go_upto_region 20 with fail
        refine wp_region_gro prG20 [0, 1, 2, 3, 4] hmo (by kernel_rfl) rfl (by kernel_rfl) (fun _ _ _ _ _ h => h) ?_
        replace HXB := Lib.hid (show Ext wr wb.drew from HXB.out.trans (Ext.drewN wb 1))
        generalize wb.drew = wd at *
        have HS5 := Lib.hid (HRy5.out.ext HXB.out)
        have HS2 := Lib.hid (HRy2.out.ext HXB.out)
        obtain ⟨d0, d1, d2, d3, d4, d5, d6, d7⟩ := row8_facts HS5.out
        obtain ⟨r0, r1, r2, r3, r4, r5, r6, r7⟩ := row8_facts HS2.out
        repeat (first
          | (refine groL_pure rfl rfl ?_; intro K hK; go_simp; refine hK _ ?_; clear hK K)
          | (refine groL_read rfl rfl ?_; intro K S hS hK; go_simp; refine hK _ ?_; clear hK K hS S)
          | (refine groL_read rfl rfl ?_; intro K S hS hK; go_simp; refine ⟨hS _ ?_, hK _ ?_⟩; (clear hK K hS S; intro w' hx'; have hce := ext_some hx'; go_simp); clear hK K hS S)
          | (refine groL_write rfl rfl ?_; intro K hK; go_simp; refine hK _ _ ?_; clear hK K))
        clear d0 d1 d2 d3 d4 d5 d6 d7 r0 r1 r2 r3 r4 r5 r6 r7 HS5 HS2
        refine groL_grow rfl rfl ?_
        intro K hK
        go_simp
        (refine (HOW.out wd (HX.out.trans HXB.out)).mono ?_; rintro e we ⟨ue, rfl, hpe, hxe⟩)
        go_simp
        refine hK _ _ ⟨hxe, ?_⟩
        clear hK K
        have HFE := Lib.hid hpe.at_
        obtain ⟨e1, e1', e2, e2', e3, e3', rfl⟩ := hpe.at_.shape
        have HXE := Lib.hid (HXB.out.trans hxe)
        have HSM := Lib.hid (same16_any _ _ B B we (HB.out.ext HXE.out) HFE.out (by have := HBF.out.few; omega) (by have := HBF.out.few; omega))
        rw [same_self] at HSM
        clear hxe hpe HXB
        refine groL_grow rfl rfl ?_
        intro K hK
        go_simp
        (refine HSM.out.mono ?_; rintro e wf ⟨rfl, hxf⟩)
        go_simp
        refine hK _ _ ⟨hxf, ?_⟩
        clear hK K
        have HXF := Lib.hid (HX.out.trans (HXE.out.trans hxf))
        clear HXE hxf HSM HFE
        repeat (first
          | (refine groL_pure rfl rfl ?_; intro K hK; go_simp; refine hK _ ?_; clear hK K)
          | (refine groL_read rfl rfl ?_; intro K S hS hK; go_simp; refine hK _ ?_; clear hK K hS S)
          | (refine groL_read rfl rfl ?_; intro K S hS hK; go_simp; refine ⟨hS _ ?_, hK _ ?_⟩; (clear hK K hS S; intro w' hx'; have hce := ext_some hx'; go_simp); clear hK K hS S)
          | (refine groL_write rfl rfl ?_; intro K hK; go_simp; refine hK _ _ ?_; clear hK K))
        refine groL_nil ?_
        go_wp2_with fail
        go_ret
        exact ⟨rfl, HXF.out⟩
      | true =>
        have HS5 := Lib.hid (HRy5.out.ext HXZ.out)
        have HNM := Lib.hid (names17_any _ _ B L w9 (HB.out.ext HXZ.out) (Strs.ext HSL.out HXZ.out) (by have := HBF.out.few; omega) HSZ.out)
        obtain ⟨d0, d1, d2, d3, d4, d5, d6, d7⟩ := row8_facts HS5.out
        go_wp2_with fail
        refine HNM.out.mono ?_
        rintro e wa ⟨rfl, hxa⟩
        replace HXZ := Lib.hid (HXZ.out.trans hxa)
        replace HI := Lib.hid (HI.out.extN hxa)
        replace HRq := Lib.hid (HRq.out.ext hxa)
        replace HRz := Lib.hid (HRz.out.ext hxa)
        clear d0 d1 d2 d3 d4 d5 d6 d7 hxa HS5 HNM
        cases hnb : namesB (varsS B.atoms).length L with
        | false =>
          have hre : renE B L = (noPat, 2) := by unfold renE; rw [if_pos hok, if_neg (by rw [hnb]; decide)]
          clear hnb
          obtain ⟨w9, hw9⟩ : ∃ x, wa = x := ⟨_, rfl⟩
          rw [hw9] at HXZ HI HRq HRz ⊢
          clear hw9
          obtain ⟨hq1, hq2⟩ := Prod.mk.inj (HRE.out.symm.trans hre)
          subst hq2
          have HA11 := Lib.hid (show PatAt w9 (.agg #[.slice none 0 0, .slice none 0 0, .bool false, .bool false, .bool false, .int .i64 0, .int .i64 0, .slice none 0 0]) Q by rw [hq1]; exact (noPat_in 0 w9).at_)
          clear hre HRE hok hq1
          go_upto_region 17 with fail
          obtain ⟨wz, hwz⟩ : ∃ x, w9 = x := ⟨_, rfl⟩
          rw [hwz] at HXZ HI HRq HRz HA11 ⊢
          clear hwz
          have HR9 := HRq
          have HR11 := HRz
          have HI9 := HI
          clear HRq HRz HI
          -- PrintNames, from region 17 on: world wz; HR9 HR11 (boxes), HI9 (PatIn of the one), HA11 (PatAt of the other), HXZ (Ext wr wz), HSP (Spl Q)
          have HSM := Lib.hid (same16_any _ _ Q Q wz HI9.out.at_ HA11.out (by have := HSP.out.la; omega) (by have := HSP.out.la; omega))
          rw [same_self] at HSM
          obtain ⟨d0, d1, d2, d3, d4, d5, d6, d7⟩ := row8_facts HR9.out
          obtain ⟨r0, r1, r2, r3, r4, r5, r6, r7⟩ := row8_facts HR11.out
          go_wp2_with fail
          refine HSM.out.mono ?_
          rintro e wa ⟨rfl, hxa⟩
          replace HXZ := Lib.hid (HXZ.out.trans hxa)
          replace HI9 := Lib.hid (HI9.out.extN hxa)
          replace HR9 := Lib.hid (HR9.out.ext hxa)
          clear d0 d1 d2 d3 d4 d5 d6 d7 r0 r1 r2 r3 r4 r5 r6 r7 HR11 HA11 HSM hxa
          have HSPO := Lib.hid (spoil_any _ Q wr.heap.size wa HI9.out HXZ.out.size HSP.out.ka HSP.out.sr HSP.out.sh HSP.out.la HSP.out.lr HSP.out.lh)
          obtain ⟨d0, d1, d2, d3, d4, d5, d6, d7⟩ := row8_facts HR9.out
          go_wp2_with fail
          refine HSPO.out.mono ?_
          rintro e wb ⟨rfl, hxb⟩
          have HXB := Lib.hid (show Ext wr wb from Below.trans HXZ.out hxb)
          clear d0 d1 d2 d3 d4 d5 d6 d7 hxb HXZ HI9 HR9 HSPO HSP
          go_upto_region 20 with fail
          refine wp_region_gro prG20 [0, 1, 2, 3, 4] hmo (by kernel_rfl) rfl (by kernel_rfl) (fun _ _ _ _ _ h => h) ?_
          replace HXB := Lib.hid (show Ext wr wb.drew from HXB.out.trans (Ext.drewN wb 1))
          generalize wb.drew = wd at *
          have HS5 := Lib.hid (HRy5.out.ext HXB.out)
          have HS2 := Lib.hid (HRy2.out.ext HXB.out)
          obtain ⟨d0, d1, d2, d3, d4, d5, d6, d7⟩ := row8_facts HS5.out
          obtain ⟨r0, r1, r2, r3, r4, r5, r6, r7⟩ := row8_facts HS2.out
          repeat (first
            | (refine groL_pure rfl rfl ?_; intro K hK; go_simp; refine hK _ ?_; clear hK K)
            | (refine groL_read rfl rfl ?_; intro K S hS hK; go_simp; refine hK _ ?_; clear hK K hS S)
            | (refine groL_read rfl rfl ?_; intro K S hS hK; go_simp; refine ⟨hS _ ?_, hK _ ?_⟩; (clear hK K hS S; intro w' hx'; have hce := ext_some hx'; go_simp); clear hK K hS S)
            | (refine groL_write rfl rfl ?_; intro K hK; go_simp; refine hK _ _ ?_; clear hK K))
          clear d0 d1 d2 d3 d4 d5 d6 d7 r0 r1 r2 r3 r4 r5 r6 r7 HS5 HS2
          refine groL_grow rfl rfl ?_
          intro K hK
          go_simp
          (refine (HOW.out wd (HX.out.trans HXB.out)).mono ?_; rintro e we ⟨ue, rfl, hpe, hxe⟩)
          go_simp
          refine hK _ _ ⟨hxe, ?_⟩
          clear hK K
          have HFE := Lib.hid hpe.at_
          obtain ⟨e1, e1', e2, e2', e3, e3', rfl⟩ := hpe.at_.shape
          have HXE := Lib.hid (HXB.out.trans hxe)
          have HSM := Lib.hid (same16_any _ _ B B we (HB.out.ext HXE.out) HFE.out (by have := HBF.out.few; omega) (by have := HBF.out.few; omega))
          rw [same_self] at HSM
          clear hxe hpe HXB
          refine groL_grow rfl rfl ?_
          intro K hK
          go_simp
          (refine HSM.out.mono ?_; rintro e wf ⟨rfl, hxf⟩)
          go_simp
          refine hK _ _ ⟨hxf, ?_⟩
          clear hK K
          have HXF := Lib.hid (HX.out.trans (HXE.out.trans hxf))
          clear HXE hxf HSM HFE
          repeat (first
            | (refine groL_pure rfl rfl ?_; intro K hK; go_simp; refine hK _ ?_; clear hK K)
            | (refine groL_read rfl rfl ?_; intro K S hS hK; go_simp; refine hK _ ?_; clear hK K hS S)
            | (refine groL_read rfl rfl ?_; intro K S hS hK; go_simp; refine ⟨hS _ ?_, hK _ ?_⟩; (clear hK K hS S; intro w' hx'; have hce := ext_some hx'; go_simp); clear hK K hS S)
            | (refine groL_write rfl rfl ?_; intro K hK; go_simp; refine hK _ _ ?_; clear hK K))
          refine groL_nil ?_
          go_wp2_with fail
          go_ret
          exact ⟨rfl, HXF.out⟩
        | true =>
          have hre : renE B L = (renP B L, 0) := by unfold renE; rw [if_pos hok, if_pos hnb]
          obtain ⟨hq1, hq2⟩ := Prod.mk.inj (HRE.out.symm.trans hre)
          subst hq2
          have HTU := Lib.hid (turned17_any _ _ B L wa (HB.out.ext HXZ.out) (Strs.ext HSL.out HXZ.out) (namesB_iff.1 hnb).len (okB_few4 hok).1 (okB_few4 hok).2.1 (okB_few4 hok).2.2.1)
          rw [← hq1] at HTU
          clear hre HRE hok hq1 hnb
          have HS5 := Lib.hid (HRy5.out.ext HXZ.out)
          go_upto_region 16 with fail
          apply wp_region_lit
          -- a load of a whole row: y5 block, HS5.out fact RowAt, api.Pattern the type's name
          refine plain_load rfl _ _ rfl y5 rfl _ _ (HS5.out) Tryz.underlying25 rfl (by kernel_rfl) ?_
          go_simp
          refine wpList_plain rfl fun K1 hK1 => ?_
          go_simp
          refine hK1 _ _ ?_
          clear hK1 K1
          -- a call in a plain region: refine HTU.out.mono ?_; rintro e wb ⟨ub, rfl, hpb, hxb⟩; obtain ⟨g1, g1', g2, g2', g3, g3', rfl⟩ := hpb.at_.shape the contract taken, and its results named
          refine wpList_plain rfl fun K1 hK1 => ?_
          go_simp
          refine HTU.out.mono ?_; rintro e wb ⟨ub, rfl, hpb, hxb⟩; obtain ⟨g1, g1', g2, g2', g3, g3', rfl⟩ := hpb.at_.shape
          go_simp
          refine hK1 _ _ ?_
          clear hK1 K1
          -- a store of a whole row: y11 block, [.slice g1 Q.atoms.length g1', .slice g2 Q.ret.length g2', .bool Q.count, .bool Q.distinct, .bool Q.limited, .int .i64 Q.limit, .int .i64 Q.offset, .slice g3 Q.hint.length g3'] its new cells (a list), HRz.out.ext hxb fact RowAt of the old, (by simp [Value.oneCell']) proof that each is one cell
          refine plain_store rfl _ _ _ rfl y11 ([.slice g1 Q.atoms.length g1', .slice g2 Q.ret.length g2', .bool Q.count, .bool Q.distinct, .bool Q.limited, .int .i64 Q.limit, .int .i64 Q.offset, .slice g3 Q.hint.length g3']) rfl rfl (HRz.out.ext hxb) (by kernel_rfl) rfl ((by simp [Value.oneCell'])) ?_
          go_simp
          have hgr := setRow_grown wb y11 ([.slice g1 Q.atoms.length g1', .slice g2 Q.ret.length g2', .bool Q.count, .bool Q.distinct, .bool Q.limited, .int .i64 Q.limit, .int .i64 Q.offset, .slice g3 Q.hint.length g3'] : List Value).toArray
          have HR11 := Lib.hid ((HRz.out.ext hxb).setRow [.slice g1 Q.atoms.length g1', .slice g2 Q.ret.length g2', .bool Q.count, .bool Q.distinct, .bool Q.limited, .int .i64 Q.limit, .int .i64 Q.offset, .slice g3 Q.hint.length g3'])
          have HR9 := Lib.hid ((HRq.out.ext hxb).kept hgr (fun e => by have := HLT.out.1; have := Option.some.inj e; omega))
          have HI9 := Lib.hid (patin_row (HI.out.extN hxb) (HRz.out.ext hxb) hgr)
          have HA11 := Lib.hid (patin_row hpb (HRz.out.ext hxb) hgr).at_
          have hxz := below_setRow (HXZ.out.trans hxb) HLT.out.2 ([.slice g1 Q.atoms.length g1', .slice g2 Q.ret.length g2', .bool Q.count, .bool Q.distinct, .bool Q.limited, .int .i64 Q.limit, .int .i64 Q.offset, .slice g3 Q.hint.length g3'] : List Value).toArray
          clear HXZ
          have HXZ := Lib.hid (show Ext wr (wb.setRow y11 ([.slice g1 Q.atoms.length g1', .slice g2 Q.ret.length g2', .bool Q.count, .bool Q.distinct, .bool Q.limited, .int .i64 Q.limit, .int .i64 Q.offset, .slice g3 Q.hint.length g3'] : List Value).toArray) from hxz)
          clear hgr hxz hpb hxb HRz HRq HI HTU HS5
          generalize wb.setRow y11 ([.slice g1 Q.atoms.length g1', .slice g2 Q.ret.length g2', .bool Q.count, .bool Q.distinct, .bool Q.limited, .int .i64 Q.limit, .int .i64 Q.offset, .slice g3 Q.hint.length g3'] : List Value).toArray = wz at *
          refine wpList_plain rfl fun K1 hK1 => ?_
          go_simp
          refine hK1 _ _ ?_
          clear hK1 K1
          apply wpList_nil
          go_upto_region 17 with fail
          -- PrintNames, from region 17 on: world wz; HR9 HR11 (boxes), HI9 (PatIn of the one), HA11 (PatAt of the other), HXZ (Ext wr wz), HSP (Spl Q)
          have HSM := Lib.hid (same16_any _ _ Q Q wz HI9.out.at_ HA11.out (by have := HSP.out.la; omega) (by have := HSP.out.la; omega))
          rw [same_self] at HSM
          obtain ⟨d0, d1, d2, d3, d4, d5, d6, d7⟩ := row8_facts HR9.out
          obtain ⟨r0, r1, r2, r3, r4, r5, r6, r7⟩ := row8_facts HR11.out
          go_wp2_with fail
          refine HSM.out.mono ?_
          rintro e wa ⟨rfl, hxa⟩
          replace HXZ := Lib.hid (HXZ.out.trans hxa)
          replace HI9 := Lib.hid (HI9.out.extN hxa)
          replace HR9 := Lib.hid (HR9.out.ext hxa)
          clear d0 d1 d2 d3 d4 d5 d6 d7 r0 r1 r2 r3 r4 r5 r6 r7 HR11 HA11 HSM hxa
          have HSPO := Lib.hid (spoil_any _ Q wr.heap.size wa HI9.out HXZ.out.size HSP.out.ka HSP.out.sr HSP.out.sh HSP.out.la HSP.out.lr HSP.out.lh)
          obtain ⟨d0, d1, d2, d3, d4, d5, d6, d7⟩ := row8_facts HR9.out
          go_wp2_with fail
          refine HSPO.out.mono ?_
          rintro e wb ⟨rfl, hxb⟩
          have HXB := Lib.hid (show Ext wr wb from Below.trans HXZ.out hxb)
          clear d0 d1 d2 d3 d4 d5 d6 d7 hxb HXZ HI9 HR9 HSPO HSP
          go_upto_region 20 with fail
          refine wp_region_gro prG20 [0, 1, 2, 3, 4] hmo (by kernel_rfl) rfl (by kernel_rfl) (fun _ _ _ _ _ h => h) ?_
          replace HXB := Lib.hid (show Ext wr wb.drew from HXB.out.trans (Ext.drewN wb 1))
          generalize wb.drew = wd at *
          have HS5 := Lib.hid (HRy5.out.ext HXB.out)
          have HS2 := Lib.hid (HRy2.out.ext HXB.out)
          obtain ⟨d0, d1, d2, d3, d4, d5, d6, d7⟩ := row8_facts HS5.out
          obtain ⟨r0, r1, r2, r3, r4, r5, r6, r7⟩ := row8_facts HS2.out
          repeat (first
            | (refine groL_pure rfl rfl ?_; intro K hK; go_simp; refine hK _ ?_; clear hK K)
            | (refine groL_read rfl rfl ?_; intro K S hS hK; go_simp; refine hK _ ?_; clear hK K hS S)
            | (refine groL_read rfl rfl ?_; intro K S hS hK; go_simp; refine ⟨hS _ ?_, hK _ ?_⟩; (clear hK K hS S; intro w' hx'; have hce := ext_some hx'; go_simp); clear hK K hS S)
            | (refine groL_write rfl rfl ?_; intro K hK; go_simp; refine hK _ _ ?_; clear hK K))
          clear d0 d1 d2 d3 d4 d5 d6 d7 r0 r1 r2 r3 r4 r5 r6 r7 HS5 HS2
          refine groL_grow rfl rfl ?_
          intro K hK
          go_simp
          (refine (HOW.out wd (HX.out.trans HXB.out)).mono ?_; rintro e we ⟨ue, rfl, hpe, hxe⟩)
          go_simp
          refine hK _ _ ⟨hxe, ?_⟩
          clear hK K
          have HFE := Lib.hid hpe.at_
          obtain ⟨e1, e1', e2, e2', e3, e3', rfl⟩ := hpe.at_.shape
          have HXE := Lib.hid (HXB.out.trans hxe)
          have HSM := Lib.hid (same16_any _ _ B B we (HB.out.ext HXE.out) HFE.out (by have := HBF.out.few; omega) (by have := HBF.out.few; omega))
          rw [same_self] at HSM
          clear hxe hpe HXB
          refine groL_grow rfl rfl ?_
          intro K hK
          go_simp
          (refine HSM.out.mono ?_; rintro e wf ⟨rfl, hxf⟩)
          go_simp
          refine hK _ _ ⟨hxf, ?_⟩
          clear hK K
          have HXF := Lib.hid (HX.out.trans (HXE.out.trans hxf))
          clear HXE hxf HSM HFE
          repeat (first
            | (refine groL_pure rfl rfl ?_; intro K hK; go_simp; refine hK _ ?_; clear hK K)
            | (refine groL_read rfl rfl ?_; intro K S hS hK; go_simp; refine hK _ ?_; clear hK K hS S)
            | (refine groL_read rfl rfl ?_; intro K S hS hK; go_simp; refine ⟨hS _ ?_, hK _ ?_⟩; (clear hK K hS S; intro w' hx'; have hce := ext_some hx'; go_simp); clear hK K hS S)
            | (refine groL_write rfl rfl ?_; intro K hK; go_simp; refine hK _ _ ?_; clear hK K))
          refine groL_nil ?_
          go_wp2_with fail
          go_ret
          exact ⟨rfl, HXF.out⟩
end Go.Proofs.YthoneahamnmjlaaGreatDoor
