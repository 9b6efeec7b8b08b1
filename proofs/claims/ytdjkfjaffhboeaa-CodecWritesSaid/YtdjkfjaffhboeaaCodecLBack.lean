/- CodecBack: the walk. -/
import Derived.Test.YtdjkfjaffhboeaaCodecLOne
namespace Go.Proofs.Ytdjkfjaffhboeaa
open Go.RowKit

theorem rdAt_mid {α : Type} (A m : List Int) (f : List Int → Rd α) : rdAt (A.length : Int) (A ++ m) f = f m := by
  unfold rdAt
  rw [if_neg (by rw [List.length_append]; omega), Int.toNat_natCast, List.drop_left]
theorem sb_inj {s t : ByteArray} (h : sb s = sb t) : s = t := by
  obtain ⟨⟨s⟩⟩ := s
  obtain ⟨⟨t⟩⟩ := t
  simp only [sb] at h
  have h2 : s.map UInt8.toNat = t.map UInt8.toNat := by
    have := congrArg (List.map Int.toNat) h
    simpa [List.map_map, Function.comp_def] using this
  have : s = t := List.map_inj_right (fun a b => UInt8.toNat_inj.1) |>.1 h2
  rw [this]
theorem strOf_size (l : List Int) : (strOfNums l).size = l.length := strOfNums_size l

theorem concat3 (x y z : Value) (p q r : List Int) (w : World) (b : Nat) (hb : w.heap.size = b) (hx : Ints w .u8 x p) (hy : Ints w .u8 y q) (hz : Ints w .u8 z r) (hl : p.length + (q.length + r.length) ≤ 1000000000) :
    Calls Try.prog 23 #[.slice (some ⟨b, 0, none⟩) 3 3] (w.alloc (.cells #[x, y, z] 24)) fun e w' => ∃ u, e = .returned u ∧ Own w' w.heap.size 5 .u8 u (p ++ (q ++ r)) ∧ Ext w w' := by
  subst hb
  refine (concat_any _ [(x, p), (y, q), (z, r)] _ (sl_at w [x, y, z] 24 _ 3 rfl rfl (by decide)) ?_ ?_).mono ?_
  · exact Blocks.cons (hx.ext (Ext.alloc _ _)) (Blocks.cons (hy.ext (Ext.alloc _ _)) (Blocks.cons (hz.ext (Ext.alloc _ _)) Blocks.nil))
  · rw [total_cons, total_cons, total_cons, total_nil]; omega
  · rintro e w' ⟨u, rfl, ho, hx⟩
    have hfl : ∀ p q r : List Int, List.flatMap Prod.snd [(x, p), (y, q), (z, r)] = p ++ (q ++ r) := fun p q r => by simp
    rw [hfl] at ho
    exact ⟨u, rfl, own_base ho (by simp), (Ext.alloc _ _).trans hx⟩

set_option maxRecDepth 100000 in
set_option maxHeartbeats 4000000 in
theorem back_walk (v1 : Value) (l1 : List Int) (v2 : Value) (l2 : List Int) (v3 : Value) (l3 : List Int) (w : World) (hv1 : Ints w .u8 v1 l1) (hl1 : Byt l1) (hv2 : Ints w .u8 v2 l2) (hl2 : Byt l2) (hv3 : Ints w .u64 v3 l3) (hl3 : U64 l3) :
    Calls Try.prog 6 #[v1, v2, v3] w fun e w' => e = .returned (.bool true) ∧ Below w.heap.size w w' := by
  have hv3' := hv3
  obtain ⟨a3, cap3, rfl, hcap3, hmax3, _⟩ := hv3'.open_
  clear hv3'
  have hmin : ∃ m3 : Nat, m3 ≤ l3.length ∧ m3 ≤ 40 ∧ (m3 = l3.length ∨ m3 = 40) := ⟨min l3.length 40, by omega, by omega, by omega⟩
  go_enter Try.func6, Try.ntmps6
  go_wp2_with fail
  refine (wakes_any _).mono ?_
  rintro e w1 ⟨rfl, hx1⟩
  go_wp2_with fail
  refine (few_any _ l1 _ (hv1.ext hx1)).mono ?_
  rintro e w2 ⟨u1, rfl, ho1, hx2⟩
  go_wp2_with fail
  refine (few_any _ l2 _ ((hv2.ext hx1).ext hx2)).mono ?_
  rintro e w3 ⟨u2, rfl, ho2, hx3⟩
  have hA : Byt (l1.take 300) := hl1.take 300
  have hB : Byt (l2.take 300) := hl2.take 300
  have hAl : (l1.take 300).length ≤ 300 := List.length_take_le _ _
  have hBl : (l2.take 300).length ≤ 300 := List.length_take_le _ _
  have hx : Ext w w3 := (hx1.trans hx2).trans hx3
  have iA := (Own.ints ho1).ext hx3
  have iB := Own.ints ho2
  generalize l1.take 300 = A at ho1 iA hA hAl
  generalize l2.take 300 = B at ho2 iB hB hBl
  have i3 := hv3.ext hx
  clear ho1 ho2 hx1 hx2 hx3 hv1 hv2 hv3 hl1 hl2
  have hclone : ∀ m3 : Nat, m3 ≤ l3.length → m3 ≤ 40 → Calls Try.prog 14 #[.slice a3 m3 cap3] w3 fun e w' => ∃ u, e = .returned u ∧ Own w' w3.heap.size 22 .u64 u (l3.take m3) ∧ Ext w3 w' := fun m3 h1 h2 =>
    cloneU _ (l3.take m3) _ (i3.cut m3 h1) (by simp; omega)
  have Hclone := Lib.hid hclone
  clear hclone
  obtain ⟨pa, ca, rfl, hca1, hca2, _⟩ := id iA
  obtain ⟨pb, cb, rfl, hcb1, hcb2, _⟩ := id iB
  unfold maxLen at hca2 hcb2
  by_cases h40 : 40 < l3.length
  · go_wp2_with fail
    refine (Hclone.out 40 (by omega) (by omega)).mono ?_
    rintro e w4 ⟨u4, rfl, ho4, hx4⟩
    have hU : U64 (l3.take (40)) := fun c hc => hl3 c (List.mem_of_mem_take hc)
    have hLl : (l3.take (40)).length ≤ 40 := by simp; omega
    have iA4 := iA.ext hx4
    have iB4 := iB.ext hx4
    have hw4 := hx.trans hx4
    have iL := Own.ints ho4
    generalize l3.take (40) = L at ho4 hU hLl iL
    obtain ⟨pl, cl, rfl, hcl1, hcl2, _⟩ := id iL
    unfold maxLen at hcl2
    clear ho4 hx4 i3 Hclone hl3
    go_wp2_with fail
    refine (row_any _ L _ hU (by omega) iL).mono ?_
    rintro e w5 ⟨u5, rfl, ho5, hx5⟩
    obtain ⟨rl, hrl⟩ : ∃ rl, rl = (rowB L).length := ⟨_, rfl⟩
    have hrlb : rl ≤ 500 := by
      have h1 := flat_len L
      have h2 := num_len 9 (L.length : Int)
      rw [hrl]; unfold rowB; rw [List.length_append]; omega
    have hrow : rdAt (A.length : Int) (A ++ (rowB L ++ B)) rdRow = .ok L rl := by rw [rdAt_mid, rdRow_row L B hU (by omega), hrl]
    have hrb : Byt (rowB L) := rowB_byt hU (by omega)
    have iR := Own.ints ho5
    obtain ⟨pr, nr, cr, rfl⟩ := own_shape ho5
    have hABl : (A ++ (rowB L ++ B)).length = A.length + (rl + B.length) := by rw [List.length_append, List.length_append, hrl]
    have hABb : Byt (A ++ (rowB L ++ B)) := hA.append (hrb.append hB)
    generalize rowB L = RL at ho5 iR hrow hABl hrb hABb hrl
    have Hrow := Lib.hid hrow
    have Hrl := Lib.hid hrl
    clear hrow ho5
    go_wp2_with fail
    refine (concat3 _ _ _ A RL B w5 _ rfl (iA4.ext hx5) iR (iB4.ext hx5) (by have := Hrl.out; omega)).mono ?_
    clear hrl
    rintro e w6 ⟨u6, rfl, ho6, hx6⟩
    have iAll := Own.ints ho6
    generalize A ++ (RL ++ B) = AB at ho6 iAll hABl hABb Hrow
    have hn1 : AB.length ≤ A.length + (rl + B.length) := by omega
    have hn2 : A.length + (rl + B.length) ≤ AB.length := by omega
    clear hABl
    obtain ⟨pab, cab, rfl, hcab1, hcab2, _⟩ := id iAll
    go_wp2_with fail
    refine (readRow_yes _ AB (A.length : Int) _ hABb iAll (by omega) Hrow.out).mono ?_
    rintro e w7 ⟨u7, rfl, ho7, hx7⟩
    have iL7 := ((iL.ext hx5).ext hx6).ext hx7
    have t1 : (((A.length : Nat) : Int) + ((rl : Nat) : Int) != ((AB.length : Nat) : Int) - ((B.length : Nat) : Int)) = false := by simp; omega
    go_wp2_with fail
    refine (equalU _ _ L L _ (Own.ints ho7) iL7).mono ?_
    rintro e w8 ⟨rfl, n8, rfl⟩
    have hx8 : Ext w4 (w7.drewN n8) := ((hx5.trans hx6).trans hx7).trans (Ext.drewN _ _)
    have iA8 := iA4.ext hx8
    have iB8 := iB4.ext hx8
    have iL8 := iL7.ext (Ext.drewN w7 n8)
    have hw8 := hw4.trans hx8
    clear hx8 iA4 iB4 iL iL7 hx5 hx6 hx7 ho7 iAll iR ho6 Hrow
    generalize w7.drewN n8 = w8 at iA8 iB8 iL8 hw8
    have hnum : ∀ x : Int, 0 ≤ x → x < 18446744073709551616 → rdAt (A.length : Int) (A ++ (num 9 x ++ B)) rdNum = .ok x (num 9 x).length := fun x g0 g1 => by rw [rdAt_mid, rdNum_num _ _ g0 g1]
    have Hnum := Lib.hid hnum
    clear hnum
    go_wp2_with fail
    go_loopw [68] (fun i wr => ∃ k : Nat, k ≤ L.length ∧ i = .int .i64 k ∧ Ext w8 wr) (fun i _ => L.length - (intOf i).toNat)
    case atStart => exact ⟨0, Nat.zero_le _, rfl, Ext.refl _⟩
    case round =>
      obtain ⟨k, hk, rfl, hxr⟩ := hrel
      have iAr := iA8.ext hxr
      have iBr := iB8.ext hxr
      have iLr := iL8.ext hxr
      by_cases hlt : k < L.length
      · obtain ⟨_, _, e1, _, _, hc⟩ := iLr.open_
        simp only [Value.slice.injEq] at e1
        obtain ⟨rfl, _, rfl⟩ := e1
        obtain ⟨b, o, rfl, hcell⟩ := hc k hlt
        have hck := hcell k hlt
        obtain ⟨g0, g1⟩ := hU.get hlt
        have hnn := Hnum.out _ g0 g1
        have hnl := num_len 9 L[k]
        have hnb := num9_byt g0 g1
        have hfull : Byt (A ++ (num 9 L[k] ++ B)) := hA.append (hnb.append hB)
        have Hnn := Lib.hid hnn
        clear hc hcell hnn hnb Hnum
        go_wp2_with fail
        refine (number_any L[k] _ g0 g1).mono ?_
        rintro e wa ⟨ua, rfl, hoa, hxa⟩
        have ia := Own.ints hoa
        obtain ⟨pn, nn, cn, rfl⟩ := own_shape hoa
        go_wp2_with fail
        refine (concat3 _ _ _ A (num 9 L[k]) B wa _ rfl (iAr.ext hxa) ia (iBr.ext hxa) (by omega)).mono ?_
        rintro e wb ⟨ub, rfl, hob, hxb⟩
        go_wp2_with fail
        refine (readNumber_yes _ _ (A.length : Int) _ hfull (Own.ints hob) (by simp only [List.length_append]; omega) Hnn.out).mono ?_
        rintro e wc ⟨uc, rfl, hv, hxc⟩
        obtain rfl := vnum_shape hv
        go_wp2_with fail
        refine (number_any L[k] _ g0 g1).mono ?_
        rintro e wd ⟨ud, rfl, hod, hxd⟩
        obtain ⟨pd, nd, cd, rfl⟩ := own_shape hod
        have hnd : nd = (num 9 L[k]).length := by
          have := Own.ints hod
          obtain ⟨_, _, e1, _⟩ := this
          simp only [Value.slice.injEq] at e1
          exact e1.2.1
        subst hnd
        go_wp2
        go_roundw
        case rel => exact ⟨k + 1, by omega, by go_num, (((hxr.trans hxa).trans hxb).trans hxc).trans hxd⟩
        case measure => simp [intOf]; omega
      · go_wp2_with fail
        refine (frame_any _ B _ hB iBr (by omega)).mono ?_
        rintro e wa ⟨ua, rfl, hoa, hxa⟩
        have iF := Own.ints hoa
        obtain ⟨pf, nf, cf, rfl⟩ := own_shape hoa
        have hnf : nf = (frameB B).length := by
          obtain ⟨_, _, e1, _⟩ := id iF
          simp only [Value.slice.injEq] at e1
          exact e1.2.1
        subst hnf
        have hfl : (frameB B).length ≤ 400 := by
          have := num_len 9 (B.length : Int)
          unfold frameB; rw [List.length_append, List.length_append, fourB_len]; omega
        have hfb : Byt (frameB B) := by
          unfold frameB
          exact (num9_byt (by omega) (by omega)).append (hB.append (fourB_byt _))
        have hfr : rdAt (A.length : Int) (A ++ (frameB B ++ A)) rdFrame = .ok B (frameB B).length := by rw [rdAt_mid, rdFrame_frame _ _ (by omega)]
        have hfbb : Byt (A ++ (frameB B ++ A)) := hA.append (hfb.append hA)
        generalize frameB B = F at iF hfl hfr hfbb
        have Hfr := Lib.hid hfr
        clear hfr hoa hfb
        go_wp2_with fail
        refine (concat3 _ _ _ A F A wa _ rfl (iAr.ext hxa) iF (iAr.ext hxa) (by omega)).mono ?_
        rintro e wb ⟨ub, rfl, hob, hxb⟩
        go_wp2_with fail
        refine (readFrame_yes _ _ (A.length : Int) _ hfbb (Own.ints hob) (by simp only [List.length_append]; omega) Hfr.out).mono ?_
        rintro e wc ⟨uc, rfl, hoc, hxc⟩
        have iBc := ((iBr.ext hxa).ext hxb).ext hxc
        have iAc := ((iAr.ext hxa).ext hxb).ext hxc
        go_wp2_with fail
        refine (equalB_yes _ _ _ _ _ (Own.ints hoc) iBc rfl).mono ?_
        rintro e wd ⟨rfl, nd, rfl⟩
        have iBd := iBc.ext (Ext.drewN wc nd)
        have iAd := iAc.ext (Ext.drewN wc nd)
        have hxd : Ext w8 (wc.drewN nd) := (((hxr.trans hxa).trans hxb).trans hxc).trans (Ext.drewN _ _)
        generalize wc.drewN nd = wd at iBd iAd hxd
        have hcv := run_conv_str iBd
        obtain ⟨S, hS⟩ : ∃ S, S = strOfNums B := ⟨_, rfl⟩
        have hSs : sb S = B := by rw [hS]; exact sb_str hB
        have hSz : S.size = B.length := by rw [hS]; exact strOf_size B
        rw [← hS] at hcv
        have HS := Lib.hid hS
        clear hS
        go_wp2_with fail
        refine (text_ok S _ (by omega)).mono ?_
        rintro e we ⟨ue, rfl, hoe, hxe⟩
        rw [hSs] at hoe
        have iT := Own.ints hoe
        obtain ⟨pt, nt, ct, rfl⟩ := own_shape hoe
        have hnt : nt = (textB B).length := by
          obtain ⟨_, _, e1, _⟩ := id iT
          simp only [Value.slice.injEq] at e1
          exact e1.2.1
        subst hnt
        have htl : (textB B).length ≤ 400 := by
          have := num_len 9 (B.length : Int)
          unfold textB; rw [List.length_append]; omega
        have htb : Byt (textB B) := by
          unfold textB
          exact (num9_byt (by omega) (by omega)).append hB
        have htr : rdAt (A.length : Int) (A ++ (textB B ++ A)) rdText = .ok B (textB B).length := by rw [rdAt_mid, rdText_text _ _ (by omega)]
        have htbb : Byt (A ++ (textB B ++ A)) := hA.append (htb.append hA)
        generalize textB B = T at iT htl htr htbb
        have Htr := Lib.hid htr
        clear htr hoe htb hcv
        go_wp2_with fail
        refine (concat3 _ _ _ A T A we _ rfl (iAd.ext hxe) iT (iAd.ext hxe) (by omega)).mono ?_
        rintro e wf ⟨uf, rfl, hof, hxf⟩
        go_wp2_with fail
        refine (readText_yes _ _ (A.length : Int) _ htbb (Own.ints hof) (by simp only [List.length_append]; omega) Htr.out).mono ?_
        rintro e wg ⟨ug, rfl, hog, hxg⟩
        obtain ⟨S', rfl, hS'⟩ := hog
        have hSS : S' = S := sb_inj (hS'.trans hSs.symm)
        subst hSS
        have hcv := run_conv_str (((iBd.ext hxe).ext hxf).ext hxg)
        rw [← HS.out] at hcv
        go_wp2_with fail
        go_ret
        exact ⟨rfl, (((hw8.trans hxd).trans hxe).trans hxf).trans hxg⟩
  · go_wp2_with fail
    refine (Hclone.out l3.length (by omega) (by omega)).mono ?_
    rintro e w4 ⟨u4, rfl, ho4, hx4⟩
    have hU : U64 (l3.take (l3.length)) := fun c hc => hl3 c (List.mem_of_mem_take hc)
    have hLl : (l3.take (l3.length)).length ≤ 40 := by simp; omega
    have iA4 := iA.ext hx4
    have iB4 := iB.ext hx4
    have hw4 := hx.trans hx4
    have iL := Own.ints ho4
    generalize l3.take (l3.length) = L at ho4 hU hLl iL
    obtain ⟨pl, cl, rfl, hcl1, hcl2, _⟩ := id iL
    unfold maxLen at hcl2
    clear ho4 hx4 i3 Hclone hl3
    go_wp2_with fail
    refine (row_any _ L _ hU (by omega) iL).mono ?_
    rintro e w5 ⟨u5, rfl, ho5, hx5⟩
    obtain ⟨rl, hrl⟩ : ∃ rl, rl = (rowB L).length := ⟨_, rfl⟩
    have hrlb : rl ≤ 500 := by
      have h1 := flat_len L
      have h2 := num_len 9 (L.length : Int)
      rw [hrl]; unfold rowB; rw [List.length_append]; omega
    have hrow : rdAt (A.length : Int) (A ++ (rowB L ++ B)) rdRow = .ok L rl := by rw [rdAt_mid, rdRow_row L B hU (by omega), hrl]
    have hrb : Byt (rowB L) := rowB_byt hU (by omega)
    have iR := Own.ints ho5
    obtain ⟨pr, nr, cr, rfl⟩ := own_shape ho5
    have hABl : (A ++ (rowB L ++ B)).length = A.length + (rl + B.length) := by rw [List.length_append, List.length_append, hrl]
    have hABb : Byt (A ++ (rowB L ++ B)) := hA.append (hrb.append hB)
    generalize rowB L = RL at ho5 iR hrow hABl hrb hABb hrl
    have Hrow := Lib.hid hrow
    have Hrl := Lib.hid hrl
    clear hrow ho5
    go_wp2_with fail
    refine (concat3 _ _ _ A RL B w5 _ rfl (iA4.ext hx5) iR (iB4.ext hx5) (by have := Hrl.out; omega)).mono ?_
    clear hrl
    rintro e w6 ⟨u6, rfl, ho6, hx6⟩
    have iAll := Own.ints ho6
    generalize A ++ (RL ++ B) = AB at ho6 iAll hABl hABb Hrow
    have hn1 : AB.length ≤ A.length + (rl + B.length) := by omega
    have hn2 : A.length + (rl + B.length) ≤ AB.length := by omega
    clear hABl
    obtain ⟨pab, cab, rfl, hcab1, hcab2, _⟩ := id iAll
    go_wp2_with fail
    refine (readRow_yes _ AB (A.length : Int) _ hABb iAll (by omega) Hrow.out).mono ?_
    rintro e w7 ⟨u7, rfl, ho7, hx7⟩
    have iL7 := ((iL.ext hx5).ext hx6).ext hx7
    have t1 : (((A.length : Nat) : Int) + ((rl : Nat) : Int) != ((AB.length : Nat) : Int) - ((B.length : Nat) : Int)) = false := by simp; omega
    go_wp2_with fail
    refine (equalU _ _ L L _ (Own.ints ho7) iL7).mono ?_
    rintro e w8 ⟨rfl, n8, rfl⟩
    have hx8 : Ext w4 (w7.drewN n8) := ((hx5.trans hx6).trans hx7).trans (Ext.drewN _ _)
    have iA8 := iA4.ext hx8
    have iB8 := iB4.ext hx8
    have iL8 := iL7.ext (Ext.drewN w7 n8)
    have hw8 := hw4.trans hx8
    clear hx8 iA4 iB4 iL iL7 hx5 hx6 hx7 ho7 iAll iR ho6 Hrow
    generalize w7.drewN n8 = w8 at iA8 iB8 iL8 hw8
    have hnum : ∀ x : Int, 0 ≤ x → x < 18446744073709551616 → rdAt (A.length : Int) (A ++ (num 9 x ++ B)) rdNum = .ok x (num 9 x).length := fun x g0 g1 => by rw [rdAt_mid, rdNum_num _ _ g0 g1]
    have Hnum := Lib.hid hnum
    clear hnum
    go_wp2_with fail
    go_loopw [68] (fun i wr => ∃ k : Nat, k ≤ L.length ∧ i = .int .i64 k ∧ Ext w8 wr) (fun i _ => L.length - (intOf i).toNat)
    case atStart => exact ⟨0, Nat.zero_le _, rfl, Ext.refl _⟩
    case round =>
      obtain ⟨k, hk, rfl, hxr⟩ := hrel
      have iAr := iA8.ext hxr
      have iBr := iB8.ext hxr
      have iLr := iL8.ext hxr
      by_cases hlt : k < L.length
      · obtain ⟨_, _, e1, _, _, hc⟩ := iLr.open_
        simp only [Value.slice.injEq] at e1
        obtain ⟨rfl, _, rfl⟩ := e1
        obtain ⟨b, o, rfl, hcell⟩ := hc k hlt
        have hck := hcell k hlt
        obtain ⟨g0, g1⟩ := hU.get hlt
        have hnn := Hnum.out _ g0 g1
        have hnl := num_len 9 L[k]
        have hnb := num9_byt g0 g1
        have hfull : Byt (A ++ (num 9 L[k] ++ B)) := hA.append (hnb.append hB)
        have Hnn := Lib.hid hnn
        clear hc hcell hnn hnb Hnum
        go_wp2_with fail
        refine (number_any L[k] _ g0 g1).mono ?_
        rintro e wa ⟨ua, rfl, hoa, hxa⟩
        have ia := Own.ints hoa
        obtain ⟨pn, nn, cn, rfl⟩ := own_shape hoa
        go_wp2_with fail
        refine (concat3 _ _ _ A (num 9 L[k]) B wa _ rfl (iAr.ext hxa) ia (iBr.ext hxa) (by omega)).mono ?_
        rintro e wb ⟨ub, rfl, hob, hxb⟩
        go_wp2_with fail
        refine (readNumber_yes _ _ (A.length : Int) _ hfull (Own.ints hob) (by simp only [List.length_append]; omega) Hnn.out).mono ?_
        rintro e wc ⟨uc, rfl, hv, hxc⟩
        obtain rfl := vnum_shape hv
        go_wp2_with fail
        refine (number_any L[k] _ g0 g1).mono ?_
        rintro e wd ⟨ud, rfl, hod, hxd⟩
        obtain ⟨pd, nd, cd, rfl⟩ := own_shape hod
        have hnd : nd = (num 9 L[k]).length := by
          have := Own.ints hod
          obtain ⟨_, _, e1, _⟩ := this
          simp only [Value.slice.injEq] at e1
          exact e1.2.1
        subst hnd
        go_wp2
        go_roundw
        case rel => exact ⟨k + 1, by omega, by go_num, (((hxr.trans hxa).trans hxb).trans hxc).trans hxd⟩
        case measure => simp [intOf]; omega
      · go_wp2_with fail
        refine (frame_any _ B _ hB iBr (by omega)).mono ?_
        rintro e wa ⟨ua, rfl, hoa, hxa⟩
        have iF := Own.ints hoa
        obtain ⟨pf, nf, cf, rfl⟩ := own_shape hoa
        have hnf : nf = (frameB B).length := by
          obtain ⟨_, _, e1, _⟩ := id iF
          simp only [Value.slice.injEq] at e1
          exact e1.2.1
        subst hnf
        have hfl : (frameB B).length ≤ 400 := by
          have := num_len 9 (B.length : Int)
          unfold frameB; rw [List.length_append, List.length_append, fourB_len]; omega
        have hfb : Byt (frameB B) := by
          unfold frameB
          exact (num9_byt (by omega) (by omega)).append (hB.append (fourB_byt _))
        have hfr : rdAt (A.length : Int) (A ++ (frameB B ++ A)) rdFrame = .ok B (frameB B).length := by rw [rdAt_mid, rdFrame_frame _ _ (by omega)]
        have hfbb : Byt (A ++ (frameB B ++ A)) := hA.append (hfb.append hA)
        generalize frameB B = F at iF hfl hfr hfbb
        have Hfr := Lib.hid hfr
        clear hfr hoa hfb
        go_wp2_with fail
        refine (concat3 _ _ _ A F A wa _ rfl (iAr.ext hxa) iF (iAr.ext hxa) (by omega)).mono ?_
        rintro e wb ⟨ub, rfl, hob, hxb⟩
        go_wp2_with fail
        refine (readFrame_yes _ _ (A.length : Int) _ hfbb (Own.ints hob) (by simp only [List.length_append]; omega) Hfr.out).mono ?_
        rintro e wc ⟨uc, rfl, hoc, hxc⟩
        have iBc := ((iBr.ext hxa).ext hxb).ext hxc
        have iAc := ((iAr.ext hxa).ext hxb).ext hxc
        go_wp2_with fail
        refine (equalB_yes _ _ _ _ _ (Own.ints hoc) iBc rfl).mono ?_
        rintro e wd ⟨rfl, nd, rfl⟩
        have iBd := iBc.ext (Ext.drewN wc nd)
        have iAd := iAc.ext (Ext.drewN wc nd)
        have hxd : Ext w8 (wc.drewN nd) := (((hxr.trans hxa).trans hxb).trans hxc).trans (Ext.drewN _ _)
        generalize wc.drewN nd = wd at iBd iAd hxd
        have hcv := run_conv_str iBd
        obtain ⟨S, hS⟩ : ∃ S, S = strOfNums B := ⟨_, rfl⟩
        have hSs : sb S = B := by rw [hS]; exact sb_str hB
        have hSz : S.size = B.length := by rw [hS]; exact strOf_size B
        rw [← hS] at hcv
        have HS := Lib.hid hS
        clear hS
        go_wp2_with fail
        refine (text_ok S _ (by omega)).mono ?_
        rintro e we ⟨ue, rfl, hoe, hxe⟩
        rw [hSs] at hoe
        have iT := Own.ints hoe
        obtain ⟨pt, nt, ct, rfl⟩ := own_shape hoe
        have hnt : nt = (textB B).length := by
          obtain ⟨_, _, e1, _⟩ := id iT
          simp only [Value.slice.injEq] at e1
          exact e1.2.1
        subst hnt
        have htl : (textB B).length ≤ 400 := by
          have := num_len 9 (B.length : Int)
          unfold textB; rw [List.length_append]; omega
        have htb : Byt (textB B) := by
          unfold textB
          exact (num9_byt (by omega) (by omega)).append hB
        have htr : rdAt (A.length : Int) (A ++ (textB B ++ A)) rdText = .ok B (textB B).length := by rw [rdAt_mid, rdText_text _ _ (by omega)]
        have htbb : Byt (A ++ (textB B ++ A)) := hA.append (htb.append hA)
        generalize textB B = T at iT htl htr htbb
        have Htr := Lib.hid htr
        clear htr hoe htb hcv
        go_wp2_with fail
        refine (concat3 _ _ _ A T A we _ rfl (iAd.ext hxe) iT (iAd.ext hxe) (by omega)).mono ?_
        rintro e wf ⟨uf, rfl, hof, hxf⟩
        go_wp2_with fail
        refine (readText_yes _ _ (A.length : Int) _ htbb (Own.ints hof) (by simp only [List.length_append]; omega) Htr.out).mono ?_
        rintro e wg ⟨ug, rfl, hog, hxg⟩
        obtain ⟨S', rfl, hS'⟩ := hog
        have hSS : S' = S := sb_inj (hS'.trans hSs.symm)
        subst hSS
        have hcv := run_conv_str (((iBd.ext hxe).ext hxf).ext hxg)
        rw [← HS.out] at hcv
        go_wp2_with fail
        go_ret
        exact ⟨rfl, (((hw8.trans hxd).trans hxe).trans hxf).trans hxg⟩
end Go.Proofs.Ytdjkfjaffhboeaa
