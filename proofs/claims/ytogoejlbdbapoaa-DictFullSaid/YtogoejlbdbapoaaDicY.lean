/- A dictionary's bytes. -/
import Derived.Test.YtogoejlbdbapoaaDicX
namespace Go.Proofs.Ytogoejlbdbapoaa
set_option maxRecDepth 100000
set_option maxHeartbeats 2000000
set_option linter.unusedSimpArgs false
open Go.RowKit Go.Shelf Go.Sort
attribute [local go_sem] Oper.semAt_some wide_fn wide_depth
set_option linter.unusedVariables false

set_option maxRecDepth 100000 in
set_option maxHeartbeats 4000000 in
theorem dbytes_yes (vs : Nat → Value × Value) (D : Dic) (w : World) (hV : DicV w vs D) (hS : DicS D) (hok : DicOK D) :
    Calls Try.prog 25 #[dv vs] w fun e w' => ∃ u, e = .returned (.tuple #[u, .int .i64 0]) ∧ Own w' w.heap.size 5 .u8 u (bytesTo (ofD D) 5) ∧ Ext w w' := by
  have hmo : Try.prog.follows .mixedOrders = true := by kernel_rfl
  have hsm := hok.small
  have hc := fun w' (hx : Ext w w') => dcheck_yes vs D w' (hV.ext hx) hS hok
  have hk := fun w => kinds_any vs w
  have hbd0 : RowAt (((w.alloc (.cells (dcells vs).toArray 28)).alloc (.cells #[.slice none 0 0] 51)).alloc (.cells #[.int .i64 0] 32)) w.heap.size 28 (dcells vs) := ((RowAt.new w _ (dcells vs)).ext (Ext.alloc _ _)).ext (Ext.alloc _ _)
  have hbd2 : RowAt (((w.alloc (.cells (dcells vs).toArray 28)).alloc (.cells #[.slice none 0 0] 51)).alloc (.cells #[.int .i64 0] 32)) (w.heap.size + 1) 51 [.slice none 0 0] := (row_at (xs := [.slice none 0 0]) (by simp)).ext (Ext.alloc _ _)
  have hbd3 : RowAt (((w.alloc (.cells (dcells vs).toArray 28)).alloc (.cells #[.slice none 0 0] 51)).alloc (.cells #[.int .i64 0] 32)) (w.heap.size + 1 + 1) 32 [.int .i64 0] := row_at (by simp)
  have hx0 : Ext w (((w.alloc (.cells (dcells vs).toArray 28)).alloc (.cells #[.slice none 0 0] 51)).alloc (.cells #[.int .i64 0] 32)) := ((Ext.alloc _ _).trans (Ext.alloc _ _)).trans (Ext.alloc _ _)
  have hsh := hV.shape
  have hdc : (dcells vs).toArray = #[(vs 0).1, (vs 0).2, (vs 1).1, (vs 1).2, (vs 2).1, (vs 2).2, (vs 3).1, (vs 3).2, (vs 4).1, (vs 4).2] := rfl
  unfold dv at hk hc ⊢
  rw [hdc] at hbd0 hbd2 hbd3 hx0 hc ⊢
  simp only [hdc] at hk
  have HB0 := Lib.hid hbd0
  have HB2 := Lib.hid hbd2
  have HB3 := Lib.hid hbd3
  have HX0 := Lib.hid hx0
  have HC := Lib.hid hc
  have HK := Lib.hid hk
  have HV := Lib.hid hV
  have HSM := Lib.hid hsm
  clear hbd0 hbd2 hbd3 hx0 hc hk hV hdc hS hok hsm
  refine calls_of_wp_marks Try.func25 rfl ?_
  simp only [Try.ntmps25, List.size_toArray, List.length_cons, List.length_nil, Nat.reduceAdd, Nat.reduceSub, Array.replicate_succ, Array.replicate_zero, List.push_toArray, List.append_toArray, List.nil_append, List.cons_append]
  go_upto_region 1 with fail
  replace HB0 := HB0.out
  replace HB2 := HB2.out
  replace HB3 := HB3.out
  replace HX0 := HX0.out
  generalize ((w.alloc (.cells #[(vs 0).1, (vs 0).2, (vs 1).1, (vs 1).2, (vs 2).1, (vs 2).2, (vs 3).1, (vs 3).2, (vs 4).1, (vs 4).2] 28)).alloc (.cells #[.slice none 0 0] 51)).alloc (.cells #[.int .i64 0] 32) = wa at *
  obtain ⟨c0, c1, c2, c3, c4, c5, c6, c7, c8, c9⟩ := HB0.facts10
  have hcc := HC.out _ HX0
  have HCC := Lib.hid hcc
  clear hcc HC
  go_wp2_with fail
  refine HCC.out.mono ?_
  rintro e w2 ⟨rfl, hx2⟩
  clear c0 c1 c2 c3 c4 c5 c6 c7 c8 c9 HCC
  have hzy : w.heap.size + 3 ≤ w2.heap.size := by have := HB3.lt; have := hx2.size; omega
  have hI0 : ByI w w2.heap.size vs [] (.slice none 0 0) ((w2.alloc (.cells #[.slice none 0 0] 51)).alloc (.cells (dcells vs).toArray 28)) :=
    ⟨((HX0.trans hx2).trans (Ext.alloc _ _)).trans (Ext.alloc _ _), row_at (by simp), ((HB2.ext hx2).ext (Ext.alloc _ _)).ext (Ext.alloc _ _), ((HB3.ext hx2).ext (Ext.alloc _ _)).ext (Ext.alloc _ _), (RowAt.new w2 _ [.slice none 0 0]).ext (Ext.alloc _ _), World.ownsRow_nil _ _ _ _⟩
  have hsz : ((w2.alloc (.cells #[.slice none 0 0] 51)).alloc (.cells (dcells vs).toArray 28)).heap.size = w2.heap.size + 1 + 1 := by simp
  have hdc : (dcells vs).toArray = #[(vs 0).1, (vs 0).2, (vs 1).1, (vs 1).2, (vs 2).1, (vs 2).2, (vs 3).1, (vs 3).2, (vs 4).1, (vs 4).2] := rfl
  rw [hdc] at hI0 hsz
  have HI0 := Lib.hid hI0
  have HSZ := Lib.hid hsz
  have hb0 := (HB0.ext hx2).ext (Ext.alloc w2 (.cells #[.slice none 0 0] 51))
  obtain ⟨c0, c1, c2, c3, c4, c5, c6, c7, c8, c9⟩ := hb0.facts10
  clear hI0 hsz hdc hb0 HB0 HB2 HB3 HX0
  go_wp2_with (go_at_call 40; refine (HK.out _).mono ?_; rintro e w' ⟨rfl, rfl⟩)
  clear c0 c1 c2 c3 c4 c5 c6 c7 c8 c9 HK
  replace HI0 := HI0.out
  replace HSZ := HSZ.out
  generalize hy : w2.heap.size = y at *
  generalize (w2.alloc (.cells #[.slice none 0 0] 51)).alloc (.cells #[(vs 0).1, (vs 0).2, (vs 1).1, (vs 1).2, (vs 2).1, (vs 2).2, (vs 3).1, (vs 3).2, (vs 4).1, (vs 4).2] 28) = w1 at *
  clear hx2 hy
  try simp only [World.size_alloc, hy]
  refine wp_overI rfl (enters_of Try.func63 (by kernel_rfl) rfl) (kinds_iter vs _ hsh)
    (by rintro k W args rfl; rfl) (fun k args => Stab.pure _ _)
    (fun k W => ∃ u, ByI w y vs (bytesTo (ofD D) k) u W) (fun q W => False)
    (fun k => Stab.ex fun u => ByI.stab _ _ _ _ _ _ (by omega)) (fun q => Stab.pure _ _) (fun k W ⟨u, h⟩ => h.arg) ⟨_, HI0⟩ ?_ ?_ ?_
  · rintro k args W L hk hL ⟨u0, hI⟩ rfl
    obtain ⟨a, n, c, b, m, d, hv, hT, hSl⟩ := HV.out k hk
    obtain ⟨hl128, hs40⟩ := HSM.out k hk
    obtain ⟨e1, e2⟩ := fst_eq hv
    have hbl := bytesTo_len HSM.out k (by omega)
    have hn := hT.len
    have hyW := hI.o5.lt
    rw [e1, e2]
    clear hsh HI0 hv e1 e2 hSl
    gi_wp2
    refine ⟨keeps_ext _ (Ext.alloc _ _), ⟨u0, hI.grow (Ext.alloc _ _)⟩, trivial, ?_⟩
    have hb2 : RowAt (W.alloc (.cells #[.slice a n c, .slice b m d] 25)) W.heap.size 25 [.slice a n c, .slice b m d] := RowAt.new _ _ _
    rintro W2 hst ⟨u, hI2⟩ -
    replace hb2 := (hst _ (Stab.row _ _ _ _) hb2)
    replace hb2 := hb2.ext (Ext.drewN W2 1)
    have hI3 := hI2.grow (Ext.drewN W2 1)
    obtain ⟨p1, p2, _, _⟩ := hb2.facts2
    obtain ⟨r0, _⟩ := hI3.o5.facts1
    obtain ⟨au, cu, rfl⟩ := own_sl hI3.own
    have HT := Lib.hid hT
    have HI3 := Lib.hid hI3
    have HB2 := Lib.hid hb2
    have HS40 := Lib.hid (show ∀ s ∈ (D k).1, s.size ≤ 40 from hs40)
    have hl128' : (D k).1.length ≤ 128 := hl128
    have hcall : ∀ {f : Nat} {args : Array Value} {w : World} {R : Ending → World → Prop}, Calls Try.prog f args w R → CallsIn (Fence.wide.inRound L) 0 Try.prog f args w R := fun h => (callsIn_wide (n := 0)).2 h
    generalize hLk : bytesTo (ofD D) k = Lk at *
    have HLk := Lib.hid hLk
    clear hst hb2 hT hI hI2 hI3 hL hs40 hl128 HV HSM hLk
    gi_wp2_with fail
    generalize Value.agg #[(vs 0).1, (vs 0).2, (vs 1).1, (vs 1).2, (vs 2).1, (vs 2).2, (vs 3).1, (vs 3).2, (vs 4).1, (vs 4).2] = dvv
    refine wpIn_region_gro groBy [0, 1, 2, 3, 4, 5, 6, 7] hmo (by kernel_rfl) (by kernel_rfl) rfl (by kernel_rfl) (fun _ _ _ _ _ h => h) ?_
    replace p1 : W2.drew.cell? _ = _ := p1
    replace r0 : W2.drew.cell? _ = _ := r0
    have hwn : IntKind.u64.wrap (n : Int) = (n : Int) := IntWalk.u64_in _ (by omega)
    repeat (first
      | (refine groL_pure rfl rfl ?_; intro K hK; go_simp; refine hK _ ?_; clear hK K)
      | (refine groL_read rfl rfl ?_; intro K S hS hK; go_simp; refine hK _ ?_; clear hK K hS S)
      | (refine groL_read rfl rfl ?_; intro K S hS hK; go_simp; refine ⟨hS _ ?_, hK _ ?_⟩; (clear hK K hS S; intro w' hx'; have hce := ext_some hx'; go_simp); clear hK K hS S)
      | (refine groL_write rfl rfl ?_; intro K hK; go_simp; refine hK _ _ ?_; clear hK K))
    refine groL_grow rfl rfl ?_
    intro K hK
    go_simp
    (refine (number_any (n : Int) _ (by omega) (by omega)).mono ?_; rintro e wn ⟨un, rfl, hun, hxn⟩)
    go_simp
    refine hK _ _ ⟨hxn, ?_⟩
    clear hK K
    have hI4 := HI3.out.grow hxn
    have hnl := num_len 9 (n : Int)
    have hBz := hI4.own
    have hsl := Sl.of_own hun
    obtain ⟨an, cn, rfl⟩ := own_sl hun
    have hyl := hI4.arg.lt
    have hnn : Lk.length + (num 9 (n : Int)).length ≤ 100000 := by omega
    refine groL_write rfl rfl ?_
    intro K hK
    refine step_append_sl (by rfl) _ _ 51 (by rfl) elB (by rfl) hBz (by rfl) hsl (by simp) (ints_one _ _) (by omega) (by unfold maxLen; omega) (by omega) ?_
    intro v5 w5 hown5 hb5 hg5 _
    obtain ⟨a5, c5, rfl⟩ := own_sl hown5
    refine hK _ _ ?_
    clear hK K
    have hA := hI4.app hzy w1.heap.size hown5 hb5 hg5
    have HA := Lib.hid hA
    have h5 := hI4.o5.below hb5 (by omega)
    obtain ⟨r5, f5⟩ := h5.facts1
    have hbx5 := RowAt.set_ne (i := 0) (v := .slice a5 (Lk.length + (num 9 (n : Int)).length) c5) ((HB2.out.ext hxn).kept hg5 (row_not_own (HB2.out.ext hxn) (by decide) hBz)) (show y ≠ W.heap.size by omega)
    have HBX := Lib.hid hbx5
    have HK5 := Lib.hid (((keeps_ext w1.heap.size (Ext.drewN W2 1)).trans (keeps_ext _ hxn)).trans hA.1)
    clear hA hun hsl hBz hI4 hown5 hb5 hg5 h5 hbx5 r0 p1 p2
    repeat (first
      | (refine groL_pure rfl rfl ?_; intro K hK; go_simp; refine hK _ ?_; clear hK K)
      | (refine groL_read rfl rfl ?_; intro K S hS hK; go_simp; refine hK _ ?_; clear hK K hS S)
      | (refine groL_read rfl rfl ?_; intro K S hS hK; go_simp; refine ⟨hS _ ?_, hK _ ?_⟩; (clear hK K hS S; intro w' hx'; have hce := ext_some hx'; go_simp); clear hK K hS S)
      | (refine groL_write rfl rfl ?_; intro K hK; go_simp; refine hK _ _ ?_; clear hK K))
    refine groL_nil ?_
    generalize w5.setCell ⟨y, 0, none⟩ (.slice a5 (Lk.length + (num 9 (n : Int)).length) c5) = w6 at *
    obtain ⟨p1, p2, _, _⟩ := HBX.out.facts2
    clear r5 f5
    gi_wp2_with fail
    gi_loopw [31] (fun i wr => ∃ (j : Nat) (u : Value), j ≤ n ∧ i = .int .i64 j ∧ ByI w y vs (Lk ++ (num 9 (n : Int) ++ ((D k).1.take j).flatMap (fun s => textB (sb s)))) u wr ∧ RowAt wr W.heap.size 25 [.slice a n c, .slice b m d] ∧ KeepsFrom w1.heap.size W2 wr) (fun i _ => n - (intOf i).toNat)
    case atStart => exact ⟨0, _, Nat.zero_le _, rfl, by simpa using HA.out.2, HBX.out, HK5.out⟩
    case round =>
      obtain ⟨j, u, hj, rfl, hIj, hBj, hKj⟩ := hrel
      obtain ⟨au, cu, rfl⟩ := own_sl hIj.own
      have HIj := Lib.hid hIj
      have HBj := Lib.hid hBj
      have HKj := Lib.hid hKj
      clear hIj hBj hKj HA HBX HK5
      by_cases hlj : j < n
      · have hlj' : j < (D k).1.length := by omega
        obtain ⟨bl, ol, rfl, c0⟩ := (HT.out.ext HIj.out.below).at_ hlj'
        have hs := HS40.out _ (List.getElem_mem hlj')
        have htl := texts_len (T := (D k).1.take j) (fun s h => HS40.out s (List.mem_of_mem_take h))
        have hfs : Hid (((D k).1.take (j + 1)).flatMap (fun s => textB (sb s)) = ((D k).1.take j).flatMap (fun s => textB (sb s)) ++ textB (sb (D k).1[j])) := Lib.hid (by rw [take_snoc _ j hlj', List.flatMap_append]; simp)
        have hll : (Lk ++ (num 9 (n : Int) ++ ((D k).1.take j).flatMap (fun s => textB (sb s)))).length ≤ 100000 := by
          have : ((D k).1.take j).length ≤ j := List.length_take_le _ _
          simp only [List.length_append]; omega
        generalize hacc : Lk ++ (num 9 (n : Int) ++ ((D k).1.take j).flatMap (fun s => textB (sb s))) = acc at *
        have HACC := Lib.hid hacc
        have htb := textB_len hs
        generalize (D k).1[j] = s at *
        have HTX := Lib.hid (fun w' => text_ok s w' (by omega))
        clear hacc htl
        gi_wp2_with fail
        refine (hcall (HTX.out _)).mono ?_
        rintro e wt ⟨ut, rfl, hut, hxt⟩
        have hIt := HIj.out.grow hxt
        obtain ⟨r5, f5⟩ := hIt.o5.facts1
        have hsl := Sl.of_own hut
        obtain ⟨at_, ct, rfl⟩ := own_sl hut
        have hBz := hIt.own
        have hyl := hIt.arg.lt
        have HIt := Lib.hid hIt
        clear hIt hut
        gi_wp2_with (gi_at_builtin; refine wpListIn_append_sl _ rfl _ _ 51 rfl elB rfl hBz rfl hsl (by simp) (ints_one _ _) (by omega) (by unfold maxLen; omega) (by omega) ?_)
        intro v7 w7 hown7 hb7 hg7 _
        obtain ⟨a7, c7, rfl⟩ := own_sl hown7
        have hA := HIt.out.app hzy w1.heap.size hown7 hb7 hg7
        obtain ⟨r7, f7⟩ := (HIt.out.o5.below hb7 (by omega)).facts1
        have HBX7 := Lib.hid (RowAt.set_ne (i := 0) (v := .slice a7 (acc.length + (textB (sb s)).length) c7) ((HBj.out.ext hxt).kept hg7 (row_not_own (HBj.out.ext hxt) (by decide) hBz)) (show y ≠ W.heap.size by omega))
        have HA7 := Lib.hid hA
        have HK7 := Lib.hid ((HKj.out.trans (keeps_ext _ hxt)).trans hA.1)
        clear hA hown7 hb7 hg7 hsl hBz r5 f5
        gi_wp2_with fail
        have HN7 : Hid (ByI w y vs (Lk ++ (num 9 (n : Int) ++ ((D k).1.take (j + 1)).flatMap (fun s => textB (sb s)))) (.slice a7 (acc.length + (textB (sb s)).length) c7) (w7.setCell ⟨y, 0, none⟩ (.slice a7 (acc.length + (textB (sb s)).length) c7))) := Lib.hid (by
          rw [hfs.out, ← List.append_assoc (num 9 (n : Int)), ← List.append_assoc Lk, HACC.out]
          exact HA7.out.2)
        exact ⟨⟨j + 1, .slice a7 (acc.length + (textB (sb s)).length) c7, by omega, by go_num, HN7.out, HBX7.out, HK7.out⟩, by simp [intOf]; omega⟩
      · have hT' : (D k).1.take j = (D k).1 := List.take_of_length_le (by omega)
        have hfin : Hid (Lk ++ (num 9 (n : Int) ++ ((D k).1.take j).flatMap (fun s => textB (sb s))) = bytesTo (ofD D) (k + 1)) := Lib.hid (by
          rw [hT', ← HLk.out]
          show _ = bytesTo (ofD D) k ++ kindB (ofD D k)
          unfold kindB
          rw [show ((ofD D k).length : Int) = (n : Int) from by rw [← hn]; rfl]; rfl)
        gi_wp2_with fail
        exact ⟨HKj.out, _, by rw [← hfin.out]; exact HIj.out⟩
  · rintro Dd W hD ⟨u, hI⟩ hdf
    obtain ⟨au, cu, rfl⟩ := own_sl hI.own
    obtain ⟨p2, f2⟩ := hI.o2.facts1
    obtain ⟨p3, f3⟩ := hI.o3.facts1
    obtain ⟨p5, f5⟩ := hI.o5.facts1
    have HI := Lib.hid hI
    clear HI0 hsh hI HV HSM
    go_wp2
    have h2 := RowAt.set_ne (i := 0) (v := .int .i64 0) (HI.out.o2.set 0 (.slice au (bytesTo (ofD D) 5).length cu)) (show w.heap.size + 1 + 1 ≠ w.heap.size + 1 by omega)
    have h3 := (RowAt.set_ne (i := 0) (v := .slice au (bytesTo (ofD D) 5).length cu) HI.out.o3 (show w.heap.size + 1 ≠ w.heap.size + 1 + 1 by omega)).set 0 (.int .i64 0)
    have hdf' := (keeps_set 0 (RowAt.set_ne (i := 0) (v := .slice au (bytesTo (ofD D) 5).length cu) HI.out.o3 (show w.heap.size + 1 ≠ w.heap.size + 1 + 1 by omega)).facts1.1 (.int .i64 0)).same Dd _ (Nat.zero_le _) ((keeps_set 0 p2 (.slice au (bytesTo (ofD D) 5).length cu)).same Dd _ (Nat.zero_le _) hdf rfl) rfl
    have q2 := (row_mark h2 hdf').facts1.1
    have q3 := (row_mark h3 hdf').facts1.1
    have ho : Own ((W.setCell ⟨w.heap.size + 1, 0, none⟩ (.slice au (bytesTo (ofD D) 5).length cu)).setCell ⟨w.heap.size + 1 + 1, 0, none⟩ (.int .i64 0)) (y + 1 + 1) 5 .u8 (.slice au (bytesTo (ofD D) 5).length cu) (bytesTo (ofD D) 5) := own_setL (g := w.heap.size + 1 + 1) (by omega) [_] _ (own_setL (g := w.heap.size + 1) (by omega) [_] _ HI.out.own)
    exact leave_markedC hdf' (v := .tuple #[.slice au (bytesTo (ofD D) 5).length cu, .int .i64 0]) (by simp [results, Try.results25, go_sem, q2, q3]) ⟨_, rfl, own_mark (own_base ho (by omega)) hdf', below_mark ((HI.out.below.setCell (p := ⟨w.heap.size + 1, 0, none⟩) (Nat.le_succ _) _).setCell (p := ⟨w.heap.size + 1 + 1, 0, none⟩) (by show w.heap.size ≤ w.heap.size + 1 + 1; omega) _) (by omega)⟩
  · rintro _ _ _ _ ⟨⟩
end Go.Proofs.Ytogoejlbdbapoaa
