/- DictFull: the walk. -/
import Derived.Test.YtogoejlbdbapoaaDicPz
namespace Go.Proofs.Ytogoejlbdbapoaa
set_option maxRecDepth 100000
set_option maxHeartbeats 2000000
set_option linter.unusedSimpArgs false
open Go.RowKit Go.Shelf Go.Sort
attribute [local go_sem] Oper.semAt_some wide_fn wide_depth
set_option linter.unusedVariables false

structure FuI (w : World) (y : Nat) (C : Heads) (E : Dic) (k j : Nat) (W : World) : Prop where
  ext : Ext w W
  cur : RowAt W y 28 (dcells (hv C))
  view : DicV W (hv C) E
  fu : FuD E k j
theorem FuI.grow {w : World} {y : Nat} {C : Heads} {E : Dic} {k j : Nat} {W W' : World} (h : FuI w y C E k j W) (hx : Ext W W') : FuI w y C E k j W' := ⟨h.ext.trans hx, h.cur.ext hx, h.view.ext hx, h.fu⟩
def groF9 : Nat → Gro
  | 0 => .read
  | 18 => .grow
  | 23 => .grow
  | 24 => .write
  | _ => .pure
def treeF9 : GroT := .pre [0, 1, 2, 3, 4, 5, 6, 7, 8, 9, 10, 11, 12, 13, 14, 15, 16, 17] (.fork 18 (.pre [19, 20, 21, 22, 23, 24, 25, 26] .nil) 23 (.pre [18, 19, 20, 21, 22, 24, 25, 26] .nil))
theorem dnew_hvF (w : World) : Calls Try.prog 19 #[] w fun e w' => ∃ N : Heads, e = .returned (dv (hv N)) ∧ DicOwn w.heap.size w' (hv N) newD ∧ Ext w w' :=
  (dnew_any w).mono fun e w' ⟨us, he, ho, hx⟩ => by
    obtain ⟨N, hA1, hA2⟩ := heads ho.view.shape
    exact ⟨N, by rw [he, show dv us = dv (hv N) from by unfold dv; rw [hA2]], fun i hi => by rw [← hA1 i hi]; exact ho i hi, hx⟩
theorem u64_mod (x : Int) (m : Nat) (h0 : 0 < m) (hm : m ≤ 100) : ∃ k : Nat, k < m ∧ RowKit.wrap64 ((IntKind.u64.wrap x).tmod m) = k := by
  have h1 : 0 ≤ IntKind.u64.wrap x := by unfold IntKind.wrap; simp [IntKind.bits, IntKind.signed]; omega
  refine ⟨((IntKind.u64.wrap x) % m).toNat, ?_, ?_⟩
  · have := Int.emod_lt_of_pos (IntKind.u64.wrap x) (show (0 : Int) < m by omega)
    have := Int.emod_nonneg (IntKind.u64.wrap x) (show (m : Int) ≠ 0 by omega)
    omega
  · rw [Int.tmod_eq_emod_of_nonneg h1]
    have a := Int.emod_lt_of_pos (IntKind.u64.wrap x) (show (0 : Int) < m by omega)
    have b := Int.emod_nonneg (IntKind.u64.wrap x) (show (m : Int) ≠ 0 by omega)
    unfold RowKit.wrap64
    omega
set_option maxRecDepth 100000 in
set_option maxHeartbeats 4000000 in
theorem dfull_walk (kd : Int) (more : Int) (w : World) (h0 : -9223372036854775808 ≤ kd ∧ kd ≤ 9223372036854775807) (h1 : -9223372036854775808 ≤ more ∧ more ≤ 9223372036854775807) :
    Calls Try.prog 6 #[.int .i64 kd, .int .i64 more] w fun e w' => e = .returned (.bool true) ∧ Ext w w' := by
  have hmo : Try.prog.follows .mixedOrders = true := by kernel_rfl
  go_enter Try.func6, Try.ntmps6
  go_wp2_with fail
  refine (dwakes_any _).mono ?_
  rintro e w1 ⟨rfl, hx1⟩
  have HX := Lib.hid hx1
  clear hx1
  go_upto_region 4 with fail
  obtain ⟨k, hk5, hke⟩ := u64_mod kd 5 (by omega) (by omega)
  rw [show ((5 : Nat) : Int) = 5 from rfl] at hke
  rw [hke]
  clear hke
  obtain ⟨m, hm4, hme⟩ := u64_mod more 4 (by omega) (by omega)
  rw [show ((4 : Nat) : Int) = 4 from rfl] at hme
  have HME := Lib.hid hme
  clear hme
  have hcon := dnew_hvF w1
  try unfold dv at hcon
  try unfold nv at hcon
  try unfold dcells at hcon
  try unfold ncells at hcon
  try unfold nsA at hcon
  try unfold ofV at hcon
  try unfold noV at hcon
  try unfold noN at hcon
  try unfold hv at hcon
  try dsimp only at hcon
  have HDN := Lib.hid hcon
  clear hcon
  go_wp2_with fail
  refine HDN.out.mono ?_
  rintro e wn ⟨N, rfl, hN, hxn⟩
  have hxn' := Ext.alloc wn (.cells #[Value.slice (N 0).1 (N 0).2.1 (N 0).2.2.1, .slice (N 0).2.2.2.1 (N 0).2.2.2.2.1 (N 0).2.2.2.2.2, Value.slice (N 1).1 (N 1).2.1 (N 1).2.2.1, .slice (N 1).2.2.2.1 (N 1).2.2.2.2.1 (N 1).2.2.2.2.2, Value.slice (N 2).1 (N 2).2.1 (N 2).2.2.1, .slice (N 2).2.2.2.1 (N 2).2.2.2.2.1 (N 2).2.2.2.2.2, Value.slice (N 3).1 (N 3).2.1 (N 3).2.2.1, .slice (N 3).2.2.2.1 (N 3).2.2.2.2.1 (N 3).2.2.2.2.2, Value.slice (N 4).1 (N 4).2.1 (N 4).2.2.1, .slice (N 4).2.2.2.1 (N 4).2.2.2.2.1 (N 4).2.2.2.2.2] 28)
  have hbn : RowAt (wn.alloc (.cells #[Value.slice (N 0).1 (N 0).2.1 (N 0).2.2.1, .slice (N 0).2.2.2.1 (N 0).2.2.2.2.1 (N 0).2.2.2.2.2, Value.slice (N 1).1 (N 1).2.1 (N 1).2.2.1, .slice (N 1).2.2.2.1 (N 1).2.2.2.2.1 (N 1).2.2.2.2.2, Value.slice (N 2).1 (N 2).2.1 (N 2).2.2.1, .slice (N 2).2.2.2.1 (N 2).2.2.2.2.1 (N 2).2.2.2.2.2, Value.slice (N 3).1 (N 3).2.1 (N 3).2.2.1, .slice (N 3).2.2.2.1 (N 3).2.2.2.2.1 (N 3).2.2.2.2.2, Value.slice (N 4).1 (N 4).2.1 (N 4).2.2.1, .slice (N 4).2.2.2.1 (N 4).2.2.2.2.1 (N 4).2.2.2.2.2] 28)) wn.heap.size 28 (dcells (hv N)) := RowAt.new _ _ _
  have hfi : FuI w wn.heap.size N newD k 0 (wn.alloc (.cells #[Value.slice (N 0).1 (N 0).2.1 (N 0).2.2.1, .slice (N 0).2.2.2.1 (N 0).2.2.2.2.1 (N 0).2.2.2.2.2, Value.slice (N 1).1 (N 1).2.1 (N 1).2.2.1, .slice (N 1).2.2.2.1 (N 1).2.2.2.2.1 (N 1).2.2.2.2.2, Value.slice (N 2).1 (N 2).2.1 (N 2).2.2.1, .slice (N 2).2.2.2.1 (N 2).2.2.2.2.1 (N 2).2.2.2.2.2, Value.slice (N 3).1 (N 3).2.1 (N 3).2.2.1, .slice (N 3).2.2.2.1 (N 3).2.2.2.2.1 (N 3).2.2.2.2.2, Value.slice (N 4).1 (N 4).2.1 (N 4).2.2.1, .slice (N 4).2.2.2.1 (N 4).2.2.2.2.1 (N 4).2.2.2.2.2] 28)) := ⟨(HX.out.trans hxn).trans hxn', hbn, hN.view.ext hxn', FuD.zero k⟩
  have HFI := Lib.hid hfi
  have HWY : Hid (w.heap.size ≤ wn.heap.size) := Lib.hid (by have h1 := HX.out.size; have h2 := hxn.size; omega)
  obtain ⟨y, hy⟩ : ∃ y, wn.heap.size = y := ⟨_, rfl⟩
  clear hxn hxn' hbn hN HDN hfi
  go_upto_region 5 with fail
  generalize wn.alloc (.cells #[Value.slice (N 0).1 (N 0).2.1 (N 0).2.2.1, .slice (N 0).2.2.2.1 (N 0).2.2.2.2.1 (N 0).2.2.2.2.2, Value.slice (N 1).1 (N 1).2.1 (N 1).2.2.1, .slice (N 1).2.2.2.1 (N 1).2.2.2.2.1 (N 1).2.2.2.2.2, Value.slice (N 2).1 (N 2).2.1 (N 2).2.2.1, .slice (N 2).2.2.2.1 (N 2).2.2.2.2.1 (N 2).2.2.2.2.2, Value.slice (N 3).1 (N 3).2.1 (N 3).2.2.1, .slice (N 3).2.2.2.1 (N 3).2.2.2.2.1 (N 3).2.2.2.2.2, Value.slice (N 4).1 (N 4).2.1 (N 4).2.2.1, .slice (N 4).2.2.2.1 (N 4).2.2.2.2.1 (N 4).2.2.2.2.2] 28) = w5 at *
  rw [hy] at HFI HWY
  try simp only [hy]
  clear hy
  go_wp2_with fail
  go_loopg [7, 28] 128 (fun g s7 i wi => ∃ j : Nat, j ≤ 128 ∧ g = 128 - j ∧ i = .int .i64 j ∧ Hid (∃ C E, FuI w y C E k j wi))
  case atStart => exact ⟨0, Nat.zero_le _, rfl, rfl, Lib.hid ⟨_, _, HFI.out⟩⟩
  case round =>
    obtain ⟨j, hj, hg, rfl, hki⟩ := hrel
    obtain ⟨C, E, hki⟩ := hki.out
    have Hg := Lib.hid hg
    have HK := Lib.hid hki
    clear hg hki HFI
    by_cases hlt : j < 128
    · obtain ⟨E', hput, hfu⟩ := HK.out.fu.step hk5 hlt
      have HPUT := Lib.hid hput
      have HFU := Lib.hid hfu
      clear hput hfu
      go_upto_region 9 with fail
      go_cut [8, 9, 10] (fun s8 s9 s10 wx => Hid (∃ x F, s8 = .pointer (some ⟨x, 0, none⟩) ∧ s9 = .int .i64 j ∧ s10 = .int .i64 0 ∧ y < x ∧ Ext wr wx ∧ RowAt wx x 28 (dcells (hv F)) ∧ DicOwn wr.heap.size wx (hv F) E'))
      case first =>
        refine wp_region_fork groF9 treeF9 hmo (by kernel_rfl) rfl (by kernel_rfl) (fun _ _ _ _ _ h => h) ?_
        have hdr : Ext wr wr.drew := Ext.drewN wr 1
        have HKD := Lib.hid (HK.out.grow hdr)
        have HXD := Lib.hid hdr
        clear hdr
        generalize wr.drew = wz at *
        obtain ⟨c0, c1, c2, c3, c4, c5, c6, c7, c8, c9⟩ := RowAt.facts10 (vs := hv C) (HKD.out.cur)
        unfold hv at c0 c1 c2 c3 c4 c5 c6 c7 c8 c9
        dsimp only at c0 c1 c2 c3 c4 c5 c6 c7 c8 c9
        unfold treeF9
        obtain ⟨ia, ib, ic, id, sa, sb, t1, t2, hw1, hw2, hw3, hw4, hr1, hr2, hc1, hc2, hz1, hz2, hz3, ht2⟩ := digs hlt
        rw [ht2] at hc2
        repeat (first
          | (refine groF_pure rfl rfl ?_; intro K hK; go_simp; refine hK _ ?_; clear hK K)
          | (refine groF_read rfl rfl ?_; intro K S hS hK; go_simp; refine hK _ ?_; clear hK K hS S)
          | (refine groF_read rfl rfl ?_; intro K S hS hK; go_simp; refine ⟨hS _ ?_, hK _ ?_⟩; (clear hK K hS S; intro w' hx'; have hce := ext_some hx'; go_simp); clear hK K hS S)
          | (refine groF_write rfl rfl ?_; intro K hK; go_simp; refine hK _ _ ?_; clear hK K))
        clear hw1 hw2 hw3 hw4 hr1 hr2 hc1 hc2 hz1 hz2 hz3 ht2
        clear c0 c1 c2 c3 c4 c5 c6 c7 c8 c9
        have HPT := Lib.hid (fun w' (hx : Ext wz w') => dPut_ok HPUT.out (hv C) w' (HKD.out.view.ext hx) (HKD.out.fu.ok.sizes HKD.out.fu.sz) (by rw [nmF_size]; omega) HKD.out.fu.ok)
        have hyz : y < wz.heap.size := HKD.out.cur.lt
        have hwz : wr.heap.size ≤ wz.heap.size := HXD.out.size
        refine groF_fork rfl rfl ?_ ?_
        · have hcon := HPT.out wz (Ext.refl _)
          try unfold dv at hcon
          try unfold nv at hcon
          try unfold dcells at hcon
          try unfold ncells at hcon
          try unfold nsA at hcon
          try unfold ofV at hcon
          try unfold noV at hcon
          try unfold noN at hcon
          try unfold hv at hcon
          try dsimp only at hcon
          have HP1 := Lib.hid hcon
          clear hcon
          intro K hK
          go_simp
          (refine HP1.out.mono ?_; rintro e w6 ⟨F, rfl, hoF, hx6⟩)
          go_simp
          refine hK _ _ ⟨hx6, ?_⟩
          clear hK K
          have hx7 := Ext.alloc w6 (.cells #[Value.slice (F 0).1 (F 0).2.1 (F 0).2.2.1, .slice (F 0).2.2.2.1 (F 0).2.2.2.2.1 (F 0).2.2.2.2.2, Value.slice (F 1).1 (F 1).2.1 (F 1).2.2.1, .slice (F 1).2.2.2.1 (F 1).2.2.2.2.1 (F 1).2.2.2.2.2, Value.slice (F 2).1 (F 2).2.1 (F 2).2.2.1, .slice (F 2).2.2.2.1 (F 2).2.2.2.2.1 (F 2).2.2.2.2.2, Value.slice (F 3).1 (F 3).2.1 (F 3).2.2.1, .slice (F 3).2.2.2.1 (F 3).2.2.2.2.1 (F 3).2.2.2.2.2, Value.slice (F 4).1 (F 4).2.1 (F 4).2.2.1, .slice (F 4).2.2.2.1 (F 4).2.2.2.2.1 (F 4).2.2.2.2.2] 28)
          have hb8 : RowAt (w6.alloc (.cells #[Value.slice (F 0).1 (F 0).2.1 (F 0).2.2.1, .slice (F 0).2.2.2.1 (F 0).2.2.2.2.1 (F 0).2.2.2.2.2, Value.slice (F 1).1 (F 1).2.1 (F 1).2.2.1, .slice (F 1).2.2.2.1 (F 1).2.2.2.2.1 (F 1).2.2.2.2.2, Value.slice (F 2).1 (F 2).2.1 (F 2).2.2.1, .slice (F 2).2.2.2.1 (F 2).2.2.2.2.1 (F 2).2.2.2.2.2, Value.slice (F 3).1 (F 3).2.1 (F 3).2.2.1, .slice (F 3).2.2.2.1 (F 3).2.2.2.2.1 (F 3).2.2.2.2.2, Value.slice (F 4).1 (F 4).2.1 (F 4).2.2.1, .slice (F 4).2.2.2.1 (F 4).2.2.2.2.1 (F 4).2.2.2.2.2] 28)) w6.heap.size 28 (dcells (hv F)) := RowAt.new _ _ _
          have HB8 := Lib.hid hb8
          have HO8 := Lib.hid (DicOwn.base (DicOwn.ext hoF hx7) hwz)
          have HX8 := Lib.hid ((HXD.out.trans hx6).trans hx7)
          have hy6 : y < w6.heap.size := by have := hx6.size; omega
          clear hx7 hb8 hoF hx6 HP1
          repeat (first
            | (refine groF_pure rfl rfl ?_; intro K hK; go_simp; refine hK _ ?_; clear hK K)
            | (refine groF_read rfl rfl ?_; intro K S hS hK; go_simp; refine hK _ ?_; clear hK K hS S)
            | (refine groF_read rfl rfl ?_; intro K S hS hK; go_simp; refine ⟨hS _ ?_, hK _ ?_⟩; (clear hK K hS S; intro w' hx'; have hce := ext_some hx'; go_simp); clear hK K hS S)
            | (refine groF_write rfl rfl ?_; intro K hK; go_simp; refine hK _ _ ?_; clear hK K))
          refine groF_grow rfl rfl ?_
          intro K hK
          go_simp
          refine hK _ _ ⟨Ext.alloc _ _, ?_⟩
          clear hK K
          repeat (first
            | (refine groF_pure rfl rfl ?_; intro K hK; go_simp; refine hK _ ?_; clear hK K)
            | (refine groF_read rfl rfl ?_; intro K S hS hK; go_simp; refine hK _ ?_; clear hK K hS S)
            | (refine groF_read rfl rfl ?_; intro K S hS hK; go_simp; refine ⟨hS _ ?_, hK _ ?_⟩; (clear hK K hS S; intro w' hx'; have hce := ext_some hx'; go_simp); clear hK K hS S)
            | (refine groF_write rfl rfl ?_; intro K hK; go_simp; refine hK _ _ ?_; clear hK K))
          refine groF_nil ?_
          try go_wp2_with fail
          go_meet
          exact Lib.hid ⟨w6.heap.size, F, rfl, rfl, rfl, hy6, HX8.out, HB8.out, HO8.out⟩
        · intro K hK
          go_simp
          refine hK _ _ ⟨Ext.alloc _ _, ?_⟩
          clear hK K
          have hxy := Ext.alloc wz (.cells #[.slice none 0 0, .slice none 0 0, .slice none 0 0, .slice none 0 0, .slice none 0 0, .slice none 0 0, .slice none 0 0, .slice none 0 0, .slice none 0 0, .slice none 0 0] 28)
          have hby : RowAt (wz.alloc (.cells #[.slice none 0 0, .slice none 0 0, .slice none 0 0, .slice none 0 0, .slice none 0 0, .slice none 0 0, .slice none 0 0, .slice none 0 0, .slice none 0 0, .slice none 0 0] 28)) wz.heap.size 28 (dcells noV) := RowAt.new _ _ _
          have hzy : wz.heap.size < (wz.alloc (.cells #[.slice none 0 0, .slice none 0 0, .slice none 0 0, .slice none 0 0, .slice none 0 0, .slice none 0 0, .slice none 0 0, .slice none 0 0, .slice none 0 0, .slice none 0 0] 28)).heap.size := hby.lt
          have HBY := Lib.hid hby
          have HXY := Lib.hid hxy
          clear hby hxy
          generalize wz.alloc (.cells #[.slice none 0 0, .slice none 0 0, .slice none 0 0, .slice none 0 0, .slice none 0 0, .slice none 0 0, .slice none 0 0, .slice none 0 0, .slice none 0 0, .slice none 0 0] 28) = wy at *
          have hcon := HPT.out wy HXY.out
          try unfold dv at hcon
          try unfold nv at hcon
          try unfold dcells at hcon
          try unfold ncells at hcon
          try unfold nsA at hcon
          try unfold ofV at hcon
          try unfold noV at hcon
          try unfold noN at hcon
          try unfold hv at hcon
          try dsimp only at hcon
          have HP2 := Lib.hid hcon
          clear hcon
          refine groF_grow rfl rfl ?_
          intro K hK
          go_simp
          (refine HP2.out.mono ?_; rintro e w6 ⟨F, rfl, hoF, hx6⟩)
          go_simp
          refine hK _ _ ⟨hx6, ?_⟩
          clear hK K
          have hbz := HBY.out.ext hx6
          have hnb := row_set10 (vs := noV) (hv F) hbz
          have hxs : Ext wr (setL w6 wz.heap.size 0 (dcells (hv F))) := below_setL hwz (dcells (hv F)) 0 ((HXD.out.trans HXY.out).trans hx6)
          have hos : DicOwn wy.heap.size (setL w6 wz.heap.size 0 (dcells (hv F))) (hv F) E' := fun i hi => (hoF i hi).setL hzy _ _
          have HNB := Lib.hid hnb
          have HXS := Lib.hid hxs
          have HOS := Lib.hid (DicOwn.base hos (by omega : wr.heap.size ≤ wy.heap.size))
          obtain ⟨c0, c1, c2, c3, c4, c5, c6, c7, c8, c9⟩ := RowAt.facts10 (vs := noV) hbz
          unfold noV at c0 c1 c2 c3 c4 c5 c6 c7 c8 c9
          try dsimp only at c0 c1 c2 c3 c4 c5 c6 c7 c8 c9
          obtain ⟨g0, g1, g2, g3, g4, g5, g6, g7, g8, g9⟩ := hbz.facts10f
          clear hbz hnb hxs hos hoF hx6 HP2
          repeat (first
            | (refine groF_pure rfl rfl ?_; intro K hK; go_simp; refine hK _ ?_; clear hK K)
            | (refine groF_read rfl rfl ?_; intro K S hS hK; go_simp; refine hK _ ?_; clear hK K hS S)
            | (refine groF_read rfl rfl ?_; intro K S hS hK; go_simp; refine ⟨hS _ ?_, hK _ ?_⟩; (clear hK K hS S; intro w' hx'; have hce := ext_some hx'; go_simp); clear hK K hS S)
            | (refine groF_write rfl rfl ?_; intro K hK; go_simp; refine hK _ _ ?_; clear hK K))
          refine groF_nil ?_
          try go_wp2_with fail
          go_meet
          exact Lib.hid ⟨wz.heap.size, F, rfl, rfl, rfl, hyz, HXS.out, HNB.out, HOS.out⟩
      case rest =>
        obtain ⟨x, F, rfl, rfl, rfl, hyx, hxc, hbx, hof⟩ := hcut.out
        have HKC := Lib.hid (HK.out.grow hxc)
        have hyr : y < wr.heap.size := HK.out.cur.lt
        have HFN : Hid (FuI w y F E' k (j + 1) (setL wc y 0 (dcells (hv F)))) := Lib.hid ⟨below_setL HWY.out (dcells (hv F)) 0 HKC.out.ext, row_set10 (vs := hv C) (hv F) HKC.out.cur, DicOwn.view (B := wr.heap.size) fun i hi => (hof i hi).setL hyr _ _, HFU.out⟩
        obtain ⟨c0, c1, c2, c3, c4, c5, c6, c7, c8, c9⟩ := RowAt.facts10 (vs := hv F) (hbx)
        unfold hv at c0 c1 c2 c3 c4 c5 c6 c7 c8 c9
        dsimp only at c0 c1 c2 c3 c4 c5 c6 c7 c8 c9
        obtain ⟨e0, e1, e2, e3, e4, e5, e6, e7, e8, e9⟩ := RowAt.facts10 (vs := hv C) (HKC.out.cur)
        unfold hv at e0 e1 e2 e3 e4 e5 e6 e7 e8 e9
        dsimp only at e0 e1 e2 e3 e4 e5 e6 e7 e8 e9
        obtain ⟨g0, g1, g2, g3, g4, g5, g6, g7, g8, g9⟩ := HKC.out.cur.facts10f
        clear hxc hbx hof hcut
        go_wp2_with fail
        rw [set10]
        clear c0 c1 c2 c3 c4 c5 c6 c7 c8 c9
        clear e0 e1 e2 e3 e4 e5 e6 e7 e8 e9
        clear g0 g1 g2 g3 g4 g5 g6 g7 g8 g9
        go_roundg (128 - (j + 1))
        case measure => have := Hg.out; omega
        case rel => exact ⟨j + 1, by omega, rfl, by go_num, Lib.hid ⟨_, _, HFN.out⟩⟩
    · have HF8 : Hid (FuD E k 128) := Lib.hid (by
        have hj8 : j = 128 := by omega
        have hfu := HK.out.fu
        rw [hj8] at hfu
        exact hfu)
      have hpo := HF8.out.full hk5
      obtain ⟨E1, hp1⟩ := HF8.out.there hk5
      have hS := HF8.out.ok.sizes HF8.out.sz
      have HS := Lib.hid hS
      have HPO := Lib.hid (fun w' (hx : Ext wr w') => dPut_err hpo (hv C) w' (HK.out.view.ext hx) hS (by decide) HF8.out.ok)
      have HP1 := Lib.hid (fun w' (hx : Ext wr w') => dPut_ok hp1 (hv C) w' (HK.out.view.ext hx) hS (by decide) HF8.out.ok)
      clear hpo hp1 hS
      obtain ⟨c0, c1, c2, c3, c4, c5, c6, c7, c8, c9⟩ := RowAt.facts10 (vs := hv C) (HK.out.cur)
      unfold hv at c0 c1 c2 c3 c4 c5 c6 c7 c8 c9
      dsimp only at c0 c1 c2 c3 c4 c5 c6 c7 c8 c9
      have hcon := HPO.out wr (Ext.refl _)
      try unfold dv at hcon
      try unfold nv at hcon
      try unfold dcells at hcon
      try unfold ncells at hcon
      try unfold nsA at hcon
      try unfold ofV at hcon
      try unfold noV at hcon
      try unfold noN at hcon
      try unfold hv at hcon
      try dsimp only at hcon
      have HQ1 := Lib.hid hcon
      clear hcon
      unfold strO at HQ1
      go_wp2_with fail
      refine HQ1.out.mono ?_
      rintro e w6 ⟨rfl, hx6⟩
      clear c0 c1 c2 c3 c4 c5 c6 c7 c8 c9
      have hx7 := hx6.trans (Ext.alloc w6 (.cells #[.slice none 0 0, .slice none 0 0, .slice none 0 0, .slice none 0 0, .slice none 0 0, .slice none 0 0, .slice none 0 0, .slice none 0 0, .slice none 0 0, .slice none 0 0] 28))
      have HX7 := Lib.hid hx7
      clear hx6 hx7 HQ1
      go_upto_region 15 with fail
      generalize w6.alloc (.cells #[.slice none 0 0, .slice none 0 0, .slice none 0 0, .slice none 0 0, .slice none 0 0, .slice none 0 0, .slice none 0 0, .slice none 0 0, .slice none 0 0, .slice none 0 0] 28) = w7 at *
      obtain ⟨c0, c1, c2, c3, c4, c5, c6, c7, c8, c9⟩ := RowAt.facts10 (vs := hv C) ((HK.out.cur.ext HX7.out))
      unfold hv at c0 c1 c2 c3 c4 c5 c6 c7 c8 c9
      dsimp only at c0 c1 c2 c3 c4 c5 c6 c7 c8 c9
      have hcon := HP1.out w7 HX7.out
      try unfold dv at hcon
      try unfold nv at hcon
      try unfold dcells at hcon
      try unfold ncells at hcon
      try unfold nsA at hcon
      try unfold ofV at hcon
      try unfold noV at hcon
      try unfold noN at hcon
      try unfold hv at hcon
      try dsimp only at hcon
      have HQ2 := Lib.hid hcon
      clear hcon
      rw [show nmF 0 = ⟨#[110, 97, 97]⟩ from rfl] at HQ2
      go_wp2_with fail
      refine HQ2.out.mono ?_
      rintro e w8 ⟨F, rfl, hoF, hx8⟩
      clear c0 c1 c2 c3 c4 c5 c6 c7 c8 c9
      have hx9 := HX7.out.trans (hx8.trans (Ext.alloc w8 (.cells #[Value.slice (F 0).1 (F 0).2.1 (F 0).2.2.1, .slice (F 0).2.2.2.1 (F 0).2.2.2.2.1 (F 0).2.2.2.2.2, Value.slice (F 1).1 (F 1).2.1 (F 1).2.2.1, .slice (F 1).2.2.2.1 (F 1).2.2.2.2.1 (F 1).2.2.2.2.2, Value.slice (F 2).1 (F 2).2.1 (F 2).2.2.1, .slice (F 2).2.2.2.1 (F 2).2.2.2.2.1 (F 2).2.2.2.2.2, Value.slice (F 3).1 (F 3).2.1 (F 3).2.2.1, .slice (F 3).2.2.2.1 (F 3).2.2.2.2.1 (F 3).2.2.2.2.2, Value.slice (F 4).1 (F 4).2.1 (F 4).2.2.1, .slice (F 4).2.2.2.1 (F 4).2.2.2.2.1 (F 4).2.2.2.2.2] 28)))
      have HX9 := Lib.hid hx9
      clear hx8 hx9 hoF HQ2 HX7
      go_upto_region 16 with fail
      generalize w8.alloc (.cells #[Value.slice (F 0).1 (F 0).2.1 (F 0).2.2.1, .slice (F 0).2.2.2.1 (F 0).2.2.2.2.1 (F 0).2.2.2.2.2, Value.slice (F 1).1 (F 1).2.1 (F 1).2.2.1, .slice (F 1).2.2.2.1 (F 1).2.2.2.2.1 (F 1).2.2.2.2.2, Value.slice (F 2).1 (F 2).2.1 (F 2).2.2.1, .slice (F 2).2.2.2.1 (F 2).2.2.2.2.1 (F 2).2.2.2.2.2, Value.slice (F 3).1 (F 3).2.1 (F 3).2.2.1, .slice (F 3).2.2.2.1 (F 3).2.2.2.2.1 (F 3).2.2.2.2.2, Value.slice (F 4).1 (F 4).2.1 (F 4).2.2.1, .slice (F 4).2.2.2.1 (F 4).2.2.2.2.1 (F 4).2.2.2.2.2] 28) = w9 at *
      have hme := HME.out
      go_upto_region 17 with fail
      obtain ⟨o, ho5, hok, hoe⟩ : ∃ o : Nat, o < 5 ∧ o ≠ k ∧ ((k : Int) + 1 + (m : Int)) % 5 = (o : Int) := ⟨(k + 1 + m) % 5, by omega, by omega, by omega⟩
      clear hme
      rw [hoe]
      clear hoe
      obtain ⟨E2, hp2, hok2, hsz2, hln2⟩ := HF8.out.other hk5 ho5 hok
      have hnl : (namesF E2 (k : Int)).length = 128 := by
        unfold namesF
        rw [if_pos (by omega)]
        exact hln2
      have HNL := Lib.hid hnl
      have HOK2 := Lib.hid hok2
      have HSZ2 := Lib.hid hsz2
      have hq3 := dPut_ok hp2 (hv C) w9 (HK.out.view.ext HX9.out) HS.out (by decide) HF8.out.ok
      rw [show nmF 0 = ⟨#[110, 97, 97]⟩ from rfl] at hq3
      have hcon := hq3
      try unfold dv at hcon
      try unfold nv at hcon
      try unfold dcells at hcon
      try unfold ncells at hcon
      try unfold nsA at hcon
      try unfold ofV at hcon
      try unfold noV at hcon
      try unfold noN at hcon
      try unfold hv at hcon
      try dsimp only at hcon
      have HQ3 := Lib.hid hcon
      clear hcon
      clear hp2 hok2 hsz2 hln2 hnl hq3 hok
      obtain ⟨c0, c1, c2, c3, c4, c5, c6, c7, c8, c9⟩ := RowAt.facts10 (vs := hv C) ((HK.out.cur.ext HX9.out))
      unfold hv at c0 c1 c2 c3 c4 c5 c6 c7 c8 c9
      dsimp only at c0 c1 c2 c3 c4 c5 c6 c7 c8 c9
      go_wp2_with fail
      refine HQ3.out.mono ?_
      rintro e w10 ⟨G, rfl, hoG, hx10⟩
      clear c0 c1 c2 c3 c4 c5 c6 c7 c8 c9
      have hxa := Ext.alloc w10 (.cells #[Value.slice (G 0).1 (G 0).2.1 (G 0).2.2.1, .slice (G 0).2.2.2.1 (G 0).2.2.2.2.1 (G 0).2.2.2.2.2, Value.slice (G 1).1 (G 1).2.1 (G 1).2.2.1, .slice (G 1).2.2.2.1 (G 1).2.2.2.2.1 (G 1).2.2.2.2.2, Value.slice (G 2).1 (G 2).2.1 (G 2).2.2.1, .slice (G 2).2.2.2.1 (G 2).2.2.2.2.1 (G 2).2.2.2.2.2, Value.slice (G 3).1 (G 3).2.1 (G 3).2.2.1, .slice (G 3).2.2.2.1 (G 3).2.2.2.2.1 (G 3).2.2.2.2.2, Value.slice (G 4).1 (G 4).2.1 (G 4).2.2.1, .slice (G 4).2.2.2.1 (G 4).2.2.2.2.1 (G 4).2.2.2.2.2] 28)
      have hbg : RowAt (w10.alloc (.cells #[Value.slice (G 0).1 (G 0).2.1 (G 0).2.2.1, .slice (G 0).2.2.2.1 (G 0).2.2.2.2.1 (G 0).2.2.2.2.2, Value.slice (G 1).1 (G 1).2.1 (G 1).2.2.1, .slice (G 1).2.2.2.1 (G 1).2.2.2.2.1 (G 1).2.2.2.2.2, Value.slice (G 2).1 (G 2).2.1 (G 2).2.2.1, .slice (G 2).2.2.2.1 (G 2).2.2.2.2.1 (G 2).2.2.2.2.2, Value.slice (G 3).1 (G 3).2.1 (G 3).2.2.1, .slice (G 3).2.2.2.1 (G 3).2.2.2.2.1 (G 3).2.2.2.2.2, Value.slice (G 4).1 (G 4).2.1 (G 4).2.2.1, .slice (G 4).2.2.2.1 (G 4).2.2.2.2.1 (G 4).2.2.2.2.2] 28)) w10.heap.size 28 (dcells (hv G)) := RowAt.new _ _ _
      have HBG := Lib.hid hbg
      have HVG := Lib.hid (hoG.view.ext hxa)
      have HXE := Lib.hid (((HK.out.ext.trans HX9.out).trans hx10).trans hxa)
      clear hxa hbg hoG hx10 HQ3
      go_upto_region 18 with fail
      generalize w10.alloc (.cells #[Value.slice (G 0).1 (G 0).2.1 (G 0).2.2.1, .slice (G 0).2.2.2.1 (G 0).2.2.2.2.1 (G 0).2.2.2.2.2, Value.slice (G 1).1 (G 1).2.1 (G 1).2.2.1, .slice (G 1).2.2.2.1 (G 1).2.2.2.2.1 (G 1).2.2.2.2.2, Value.slice (G 2).1 (G 2).2.1 (G 2).2.2.1, .slice (G 2).2.2.2.1 (G 2).2.2.2.2.1 (G 2).2.2.2.2.2, Value.slice (G 3).1 (G 3).2.1 (G 3).2.2.1, .slice (G 3).2.2.2.1 (G 3).2.2.2.2.1 (G 3).2.2.2.2.2, Value.slice (G 4).1 (G 4).2.1 (G 4).2.2.1, .slice (G 4).2.2.2.1 (G 4).2.2.2.2.1 (G 4).2.2.2.2.2] 28) = w11 at *
      have hnm := names_yes (hv G) E2 w11 HVG.out (HOK2.out.sizes HSZ2.out) HOK2.out (k : Int)
      rw [HNL.out] at hnm
      have hcon := hnm
      try unfold dv at hcon
      try unfold nv at hcon
      try unfold dcells at hcon
      try unfold ncells at hcon
      try unfold nsA at hcon
      try unfold ofV at hcon
      try unfold noV at hcon
      try unfold noN at hcon
      try unfold hv at hcon
      try dsimp only at hcon
      have HNM := Lib.hid hcon
      clear hcon
      clear hnm
      obtain ⟨c0, c1, c2, c3, c4, c5, c6, c7, c8, c9⟩ := RowAt.facts10 (vs := hv G) (HBG.out)
      unfold hv at c0 c1 c2 c3 c4 c5 c6 c7 c8 c9
      dsimp only at c0 c1 c2 c3 c4 c5 c6 c7 c8 c9
      go_wp2_with fail
      refine HNM.out.mono ?_
      rintro e w12 ⟨u, rfl, hu, hx12⟩
      clear c0 c1 c2 c3 c4 c5 c6 c7 c8 c9
      obtain ⟨au, cu, rfl⟩ := own_sl hu
      have HXF := Lib.hid (HXE.out.trans hx12)
      clear hu hx12 HNM
      go_wp2_with fail
      go_ret
      exact ⟨rfl, HXF.out⟩
end Go.Proofs.Ytogoejlbdbapoaa
