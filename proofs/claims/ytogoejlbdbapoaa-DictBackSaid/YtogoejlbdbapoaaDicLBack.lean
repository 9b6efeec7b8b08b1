/- DictBack: the walk. -/
import Derived.Test.YtogoejlbdbapoaaDicLw
import Derived.Test.YtogoejlbdbapoaaDicPi
namespace Go.Proofs.Ytogoejlbdbapoaa
set_option maxRecDepth 100000
set_option maxHeartbeats 2000000
set_option linter.unusedSimpArgs false
open Go.RowKit Go.Shelf Go.Sort
attribute [local go_sem] Oper.semAt_some wide_fn wide_depth
set_option linter.unusedVariables false

theorem dconcat3 (x y z : Value) (p q r : List Int) (w : World) (b : Nat) (hb : w.heap.size = b) (hx : Ints w .u8 x p) (hy : Ints w .u8 y q) (hz : Ints w .u8 z r) (hl : p.length + (q.length + r.length) ≤ 1000000000) :
    Calls Try.prog 36 #[.slice (some ⟨b, 0, none⟩) 3 3] (w.alloc (.cells #[x, y, z] 51)) fun e w' => ∃ u, e = .returned u ∧ Own w' w.heap.size 5 .u8 u (p ++ (q ++ r)) ∧ Ext w w' := by
  subst hb
  refine (concat_any _ [(x, p), (y, q), (z, r)] _ (sl_at w [x, y, z] 51 _ 3 rfl rfl (by decide)) ?_ ?_).mono ?_
  · exact Blocks.cons (hx.ext (Ext.alloc _ _)) (Blocks.cons (hy.ext (Ext.alloc _ _)) (Blocks.cons (hz.ext (Ext.alloc _ _)) Blocks.nil))
  · rw [total_cons, total_cons, total_cons, total_nil]; omega
  · rintro e w' ⟨u, rfl, ho, hx⟩
    have hfl : ∀ p q r : List Int, List.flatMap Prod.snd [(x, p), (y, q), (z, r)] = p ++ (q ++ r) := fun p q r => by simp
    rw [hfl] at ho
    exact ⟨u, rfl, own_base ho (by simp), (Ext.alloc _ _).trans hx⟩
theorem dconcat2 (x y : Value) (p q : List Int) (w : World) (b : Nat) (hb : w.heap.size = b) (hx : Ints w .u8 x p) (hy : Ints w .u8 y q) (hl : p.length + q.length ≤ 1000000000) :
    Calls Try.prog 36 #[.slice (some ⟨b, 0, none⟩) 2 2] (w.alloc (.cells #[x, y] 51)) fun e w' => ∃ u, e = .returned u ∧ Own w' w.heap.size 5 .u8 u (p ++ q) ∧ Ext w w' := by
  subst hb
  refine (concat_any _ [(x, p), (y, q)] _ (sl_at w [x, y] 51 _ 2 rfl rfl (by decide)) ?_ ?_).mono ?_
  · exact Blocks.cons (hx.ext (Ext.alloc _ _)) (Blocks.cons (hy.ext (Ext.alloc _ _)) Blocks.nil)
  · rw [total_cons, total_cons, total_nil]; omega
  · rintro e w' ⟨u, rfl, ho, hx⟩
    have hfl : ∀ p q : List Int, List.flatMap Prod.snd [(x, p), (y, q)] = p ++ q := fun p q => by simp
    rw [hfl] at ho
    exact ⟨u, rfl, own_base ho (by simp), (Ext.alloc _ _).trans hx⟩
theorem dsame_yes (vs us : Nat → Value × Value) (D E : Dic) (w : World) (hV : DicV w vs D) (hU : DicV w us E) (h : ∀ i, i < 5 → (D i).1 = (E i).1) :
    Calls Try.prog 14 #[dv vs, dv us] w fun e w' => e = .returned (.bool true) ∧ Ext w w' :=
  (dsame_any vs us D E w hV hU).mono fun e w' ⟨he, hx⟩ => ⟨by rw [he, (sameN_iff (M := ofD D) (N := ofD E)).2 h], hx⟩
set_option maxRecDepth 100000 in
set_option maxHeartbeats 4000000 in
theorem dback_walk (v0 : Value) (D : Dic) (v1 : Value) (l1 : List Int) (v2 : Value) (l2 : List Int) (w : World)
    (h0 : ∃ vs, v0 = dv vs ∧ DicV w vs D ∧ ∀ i, i < 5 → ∀ s ∈ (D i).1, s.size ≤ 9223372036854775807) (h1 : Ints w .u8 v1 l1) (hl1 : Byt l1) (h2 : Ints w .u8 v2 l2) (hl2 : Byt l2) :
    Calls Try.prog 9 #[v0, v1, v2] w fun e w' => e = .returned (.bool true) ∧ Ext w w' := by
  have hmo : Try.prog.follows .mixedOrders = true := by kernel_rfl
  obtain ⟨a1, cap1, rfl, hcap1, hmax1, _⟩ := h1.open_
  obtain ⟨a2, cap2, rfl, hcap2, hmax2, _⟩ := h2.open_
  obtain ⟨mt, hmt⟩ : ∃ x : Int, (if (50 : Int) < (l1.length : Int) then (50 : Int) else (l1.length : Int)) = x := ⟨_, rfl⟩
  obtain ⟨m0, m1, m2⟩ : 0 ≤ mt ∧ mt ≤ (cap1 : Int) ∧ mt.toNat = min l1.length 50 := by rw [← hmt]; split <;> omega
  obtain ⟨ms, hms⟩ : ∃ x : Int, (if (50 : Int) < (l2.length : Int) then (50 : Int) else (l2.length : Int)) = x := ⟨_, rfl⟩
  obtain ⟨s0, s1, s2⟩ : 0 ≤ ms ∧ ms ≤ (cap2 : Int) ∧ ms.toNat = min l2.length 50 := by rw [← hms]; split <;> omega
  have hi1 := h1.take mt.toNat (by omega)
  have hi2 := h2.take ms.toNat (by omega)
  obtain ⟨P, hP⟩ : ∃ P, l1.take mt.toNat = P := ⟨_, rfl⟩
  obtain ⟨Q, hQ⟩ : ∃ Q, l2.take ms.toNat = Q := ⟨_, rfl⟩
  rw [hP] at hi1
  rw [hQ] at hi2
  have HP : Hid (Byt P ∧ P.length = mt.toNat ∧ P.length ≤ 50) := Lib.hid ⟨by rw [← hP]; exact hl1.take _, by rw [← hP]; simp; omega, by rw [← hP]; simp; omega⟩
  have HQ : Hid (Byt Q ∧ Q.length = ms.toNat ∧ Q.length ≤ 50) := Lib.hid ⟨by rw [← hQ]; exact hl2.take _, by rw [← hQ]; simp; omega, by rw [← hQ]; simp; omega⟩
  have H1 := Lib.hid hi1
  have H2 := Lib.hid hi2
  clear h1 h2 hl1 hl2 hi1 hi2 hP hQ m2 s2
  obtain ⟨vs, rfl, hV0, hs0⟩ := h0
  obtain ⟨A, hA1, hA2⟩ := heads hV0.shape
  rw [show dv vs = dv (hv A) from by unfold dv; rw [hA2]]
  have hV : DicV w (hv A) D := fun i hi => by rw [← hA1 i hi]; exact hV0 i hi
  clear hA1 hA2 hV0
  have hbx : RowAt (w.alloc (.cells #[Value.slice (A 0).1 (A 0).2.1 (A 0).2.2.1, .slice (A 0).2.2.2.1 (A 0).2.2.2.2.1 (A 0).2.2.2.2.2, Value.slice (A 1).1 (A 1).2.1 (A 1).2.2.1, .slice (A 1).2.2.2.1 (A 1).2.2.2.2.1 (A 1).2.2.2.2.2, Value.slice (A 2).1 (A 2).2.1 (A 2).2.2.1, .slice (A 2).2.2.2.1 (A 2).2.2.2.2.1 (A 2).2.2.2.2.2, Value.slice (A 3).1 (A 3).2.1 (A 3).2.2.1, .slice (A 3).2.2.2.1 (A 3).2.2.2.2.1 (A 3).2.2.2.2.2, Value.slice (A 4).1 (A 4).2.1 (A 4).2.2.1, .slice (A 4).2.2.2.1 (A 4).2.2.2.2.1 (A 4).2.2.2.2.2] 28)) w.heap.size 28 (dcells (hv A)) := RowAt.new _ _ _
  have hx0 := Ext.alloc w (.cells #[Value.slice (A 0).1 (A 0).2.1 (A 0).2.2.1, .slice (A 0).2.2.2.1 (A 0).2.2.2.2.1 (A 0).2.2.2.2.2, Value.slice (A 1).1 (A 1).2.1 (A 1).2.2.1, .slice (A 1).2.2.2.1 (A 1).2.2.2.2.1 (A 1).2.2.2.2.2, Value.slice (A 2).1 (A 2).2.1 (A 2).2.2.1, .slice (A 2).2.2.2.1 (A 2).2.2.2.2.1 (A 2).2.2.2.2.2, Value.slice (A 3).1 (A 3).2.1 (A 3).2.2.1, .slice (A 3).2.2.2.1 (A 3).2.2.2.2.1 (A 3).2.2.2.2.2, Value.slice (A 4).1 (A 4).2.1 (A 4).2.2.1, .slice (A 4).2.2.2.1 (A 4).2.2.2.2.1 (A 4).2.2.2.2.2] 28)
  have HV := Lib.hid hV
  have HB := Lib.hid hbx
  have HX := Lib.hid hx0
  have HSZ := Lib.hid (cutD_s hs0)
  clear hV hbx hx0 hs0
  unfold dv dcells hv
  dsimp only
  go_enter Try.func9, Try.ntmps9
  go_upto_region 1 with fail
  generalize w.alloc (.cells #[Value.slice (A 0).1 (A 0).2.1 (A 0).2.2.1, .slice (A 0).2.2.2.1 (A 0).2.2.2.2.1 (A 0).2.2.2.2.2, Value.slice (A 1).1 (A 1).2.1 (A 1).2.2.1, .slice (A 1).2.2.2.1 (A 1).2.2.2.2.1 (A 1).2.2.2.2.2, Value.slice (A 2).1 (A 2).2.1 (A 2).2.2.1, .slice (A 2).2.2.2.1 (A 2).2.2.2.2.1 (A 2).2.2.2.2.2, Value.slice (A 3).1 (A 3).2.1 (A 3).2.2.1, .slice (A 3).2.2.2.1 (A 3).2.2.2.2.1 (A 3).2.2.2.2.2, Value.slice (A 4).1 (A 4).2.1 (A 4).2.2.1, .slice (A 4).2.2.2.1 (A 4).2.2.2.2.1 (A 4).2.2.2.2.2] 28) = wa at *
  go_wp2_with fail
  refine (dwakes_any _).mono ?_
  rintro e w1 ⟨rfl, hx1⟩
  replace HB := Lib.hid (HB.out.ext hx1)
  replace HX := Lib.hid (HX.out.trans hx1)
  clear hx1
  obtain ⟨c0, c1, c2, c3, c4, c5, c6, c7, c8, c9⟩ := RowAt.facts10 (vs := hv A) (HB.out)
  unfold hv at c0 c1 c2 c3 c4 c5 c6 c7 c8 c9
  dsimp only at c0 c1 c2 c3 c4 c5 c6 c7 c8 c9
  have hcon := lawOwn_hv A D w1 (HV.out.ext HX.out)
  try unfold dv at hcon
  try unfold nv at hcon
  try unfold dcells at hcon
  try unfold ncells at hcon
  try unfold nsA at hcon
  try unfold ofV at hcon
  try unfold noV at hcon
  try unfold noN at hcon
  try unfold hv at hcon
  try dsimp only at hcon
  have HOW := Lib.hid hcon
  clear hcon
  go_wp2_with fail
  refine HOW.out.mono ?_
  rintro e w2 ⟨B, rfl, hown2, hx2⟩
  clear c0 c1 c2 c3 c4 c5 c6 c7 c8 c9
  have hx3 := hx2.trans (Ext.alloc w2 (.cells #[Value.slice (B 0).1 (B 0).2.1 (B 0).2.2.1, .slice (B 0).2.2.2.1 (B 0).2.2.2.2.1 (B 0).2.2.2.2.2, Value.slice (B 1).1 (B 1).2.1 (B 1).2.2.1, .slice (B 1).2.2.2.1 (B 1).2.2.2.2.1 (B 1).2.2.2.2.2, Value.slice (B 2).1 (B 2).2.1 (B 2).2.2.1, .slice (B 2).2.2.2.1 (B 2).2.2.2.2.1 (B 2).2.2.2.2.2, Value.slice (B 3).1 (B 3).2.1 (B 3).2.2.1, .slice (B 3).2.2.2.1 (B 3).2.2.2.2.1 (B 3).2.2.2.2.2, Value.slice (B 4).1 (B 4).2.1 (B 4).2.2.1, .slice (B 4).2.2.2.1 (B 4).2.2.2.2.1 (B 4).2.2.2.2.2] 28))
  replace HB := Lib.hid (HB.out.ext hx3)
  replace HX := Lib.hid (HX.out.trans hx3)
  have HBB : Hid (RowAt (w2.alloc (.cells #[Value.slice (B 0).1 (B 0).2.1 (B 0).2.2.1, .slice (B 0).2.2.2.1 (B 0).2.2.2.2.1 (B 0).2.2.2.2.2, Value.slice (B 1).1 (B 1).2.1 (B 1).2.2.1, .slice (B 1).2.2.2.1 (B 1).2.2.2.2.1 (B 1).2.2.2.2.2, Value.slice (B 2).1 (B 2).2.1 (B 2).2.2.1, .slice (B 2).2.2.2.1 (B 2).2.2.2.2.1 (B 2).2.2.2.2.2, Value.slice (B 3).1 (B 3).2.1 (B 3).2.2.1, .slice (B 3).2.2.2.1 (B 3).2.2.2.2.1 (B 3).2.2.2.2.2, Value.slice (B 4).1 (B 4).2.1 (B 4).2.2.1, .slice (B 4).2.2.2.1 (B 4).2.2.2.2.1 (B 4).2.2.2.2.2] 28)) w2.heap.size 28 (dcells (hv B))) := Lib.hid (RowAt.new _ _ _)
  have HVB := Lib.hid (hown2.view.ext (Ext.alloc w2 (.cells #[Value.slice (B 0).1 (B 0).2.1 (B 0).2.2.1, .slice (B 0).2.2.2.1 (B 0).2.2.2.2.1 (B 0).2.2.2.2.2, Value.slice (B 1).1 (B 1).2.1 (B 1).2.2.1, .slice (B 1).2.2.2.1 (B 1).2.2.2.2.1 (B 1).2.2.2.2.2, Value.slice (B 2).1 (B 2).2.1 (B 2).2.2.1, .slice (B 2).2.2.2.1 (B 2).2.2.2.2.1 (B 2).2.2.2.2.2, Value.slice (B 3).1 (B 3).2.1 (B 3).2.2.1, .slice (B 3).2.2.2.1 (B 3).2.2.2.2.1 (B 3).2.2.2.2.2, Value.slice (B 4).1 (B 4).2.1 (B 4).2.2.1, .slice (B 4).2.2.2.1 (B 4).2.2.2.2.1 (B 4).2.2.2.2.2] 28)))
  obtain ⟨y, hy⟩ : ∃ y, w2.heap.size = y := ⟨_, rfl⟩
  clear hx3 hx2 hown2 HOW
  go_upto_region 4 with fail
  generalize w2.alloc (.cells #[Value.slice (B 0).1 (B 0).2.1 (B 0).2.2.1, .slice (B 0).2.2.2.1 (B 0).2.2.2.2.1 (B 0).2.2.2.2.2, Value.slice (B 1).1 (B 1).2.1 (B 1).2.2.1, .slice (B 1).2.2.2.1 (B 1).2.2.2.2.1 (B 1).2.2.2.2.2, Value.slice (B 2).1 (B 2).2.1 (B 2).2.2.1, .slice (B 2).2.2.2.1 (B 2).2.2.2.2.1 (B 2).2.2.2.2.2, Value.slice (B 3).1 (B 3).2.1 (B 3).2.2.1, .slice (B 3).2.2.2.1 (B 3).2.2.2.2.1 (B 3).2.2.2.2.2, Value.slice (B 4).1 (B 4).2.1 (B 4).2.2.1, .slice (B 4).2.2.2.1 (B 4).2.2.2.2.1 (B 4).2.2.2.2.2] 28) = w3 at *
  rw [hy] at *
  clear hy
  by_cases hok : DicOK (cutD D)
  · obtain ⟨c0, c1, c2, c3, c4, c5, c6, c7, c8, c9⟩ := RowAt.facts10 (vs := hv B) (HBB.out)
    unfold hv at c0 c1 c2 c3 c4 c5 c6 c7 c8 c9
    dsimp only at c0 c1 c2 c3 c4 c5 c6 c7 c8 c9
    have hcon := dbytes_yes (hv B) (cutD D) w3 HVB.out HSZ.out hok
    try unfold dv at hcon
    try unfold nv at hcon
    try unfold dcells at hcon
    try unfold ncells at hcon
    try unfold nsA at hcon
    try unfold ofV at hcon
    try unfold noV at hcon
    try unfold noN at hcon
    try unfold hv at hcon
    try dsimp only at hcon
    have HC1 := Lib.hid hcon
    clear hcon
    go_wp2_with fail
    refine HC1.out.mono ?_
    rintro e w4 ⟨u4, rfl, hu4, hx4⟩
    have hi4 := Own.ints hu4
    obtain ⟨au4, cu4, rfl⟩ := own_sl hu4
    replace HB := Lib.hid (HB.out.ext hx4)
    replace HX := Lib.hid (HX.out.trans hx4)
    replace HBB := Lib.hid (HBB.out.ext hx4)
    replace HVB := Lib.hid (HVB.out.ext hx4)
    clear c0 c1 c2 c3 c4 c5 c6 c7 c8 c9
    have hbl := bytesTo_len hok.small 5 (by omega)
    obtain ⟨M, hM, hMi⟩ := readTo_all hok.good P Q
    have hbb : Byt (bytesTo (ofD (cutD D)) 5) := bytesTo_byt hok.small 5 (by omega)
    generalize hLL : bytesTo (ofD (cutD D)) 5 = L at *
    have HI4 := Lib.hid hi4
    have HM := Lib.hid hM
    have HMI := Lib.hid hMi
    have HBL := Lib.hid hbb
    clear HC1 hu4 hx4 hi4 hM hMi hLL hbb
    go_upto_region 7 with fail
    refine wp_region_gro (fun _ => Gro.pure) [0, 1, 2, 3, 4, 5, 6, 7, 8, 9, 10, 11] hmo (by kernel_rfl) rfl (by kernel_rfl) (fun _ _ _ _ _ h => h) ?_
    repeat (first
      | (refine groL_pure rfl rfl ?_; intro K hK; go_simp; refine hK _ ?_; clear hK K)
      | (refine groL_read rfl rfl ?_; intro K S hS hK; go_simp; refine hK _ ?_; clear hK K hS S)
      | (refine groL_read rfl rfl ?_; intro K S hS hK; go_simp; refine ⟨hS _ ?_, hK _ ?_⟩; (clear hK K hS S; intro w' hx'; have hce := ext_some hx'; go_simp); clear hK K hS S)
      | (refine groL_write rfl rfl ?_; intro K hK; go_simp; refine hK _ _ ?_; clear hK K))
    refine groL_nil ?_
    have hdr : Ext w4 w4.drew := Ext.drewN w4 1
    replace HB := Lib.hid (HB.out.ext hdr)
    replace HX := Lib.hid (HX.out.trans hdr)
    replace HBB := Lib.hid (HBB.out.ext hdr)
    replace HVB := Lib.hid (HVB.out.ext hdr)
    have HI5 := Lib.hid (HI4.out.ext hdr)
    clear hdr HI4
    generalize w4.drew = w5 at *
    rw [show (Value.slice a1 mt.toNat cap1) = .slice a1 P.length cap1 from by rw [HP.out.2.1], show (Value.slice a2 ms.toNat cap2) = .slice a2 Q.length cap2 from by rw [HQ.out.2.1]]
    have h1p : Ints w .u8 (.slice a1 P.length cap1) P := by have := H1.out; rw [← HP.out.2.1] at this; exact this
    have h2p : Ints w .u8 (.slice a2 Q.length cap2) Q := by have := H2.out; rw [← HQ.out.2.1] at this; exact this
    have HI1 := Lib.hid h1p
    have HI2 := Lib.hid h2p
    have HCC := Lib.hid (dconcat3 _ _ _ P L Q w5 _ rfl (h1p.ext HX.out) HI5.out (h2p.ext HX.out) (by have := HP.out.2.2; have := HQ.out.2.2; omega))
    clear h1p h2p
    go_wp2_with fail
    refine HCC.out.mono ?_
    rintro e w6 ⟨u6, rfl, hu6, hx6'⟩
    have hx6 := hx6'
    replace HB := Lib.hid (HB.out.ext hx6)
    replace HX := Lib.hid (HX.out.trans hx6)
    replace HBB := Lib.hid (HBB.out.ext hx6)
    replace HVB := Lib.hid (HVB.out.ext hx6)
    have HI6 := Lib.hid (HI5.out.ext hx6)
    have hi6 := Own.ints hu6
    obtain ⟨au6, cu6, rfl⟩ := own_sl hu6
    have hbt : Byt (P ++ (L ++ Q)) := HP.out.1.append (HBL.out.append HQ.out.1)
    have hPl := HP.out.2.2
    have hQl := HQ.out.2.2
    have hlt : (P ++ (L ++ Q)).length = P.length + (L.length + Q.length) := by rw [List.length_append, List.length_append]
    have hcon := dread_ok hbt hi6 (by omega) (by omega) HM.out
    try unfold dv at hcon
    try unfold nv at hcon
    try unfold dcells at hcon
    try unfold ncells at hcon
    try unfold nsA at hcon
    try unfold ofV at hcon
    try unfold noV at hcon
    try unfold noN at hcon
    try unfold hv at hcon
    try dsimp only at hcon
    have HRD := Lib.hid hcon
    clear hcon
    have HHOK := Lib.hid hok
    obtain ⟨qn, hqn⟩ : ∃ qn, P.length + L.length = qn := ⟨_, rfl⟩
    rw [hqn] at HRD
    have hadd : (P.length : Int) + (L.length : Int) = (qn : Int) := by omega
    have hwr : IntKind.i64.wrap ((P.length : Int) + (L.length : Int)) = (qn : Int) := by rw [hadd]; exact IntWalk.i64_in _ (by omega)
    clear HCC hx6 hx6' hu6 hi6 hbt HI5 hok hqn hlt
    generalize (P ++ (L ++ Q)).length = tl at *
    go_wp2_with fail
    refine HRD.out.mono ?_
    rintro e w7 ⟨C, DC, rfl, howC, hokC, hNC, hx7'⟩
    have hx7 := hx7'.trans (Ext.alloc w7 (.cells #[Value.slice (C 0).1 (C 0).2.1 (C 0).2.2.1, .slice (C 0).2.2.2.1 (C 0).2.2.2.2.1 (C 0).2.2.2.2.2, Value.slice (C 1).1 (C 1).2.1 (C 1).2.2.1, .slice (C 1).2.2.2.1 (C 1).2.2.2.2.1 (C 1).2.2.2.2.2, Value.slice (C 2).1 (C 2).2.1 (C 2).2.2.1, .slice (C 2).2.2.2.1 (C 2).2.2.2.2.1 (C 2).2.2.2.2.2, Value.slice (C 3).1 (C 3).2.1 (C 3).2.2.1, .slice (C 3).2.2.2.1 (C 3).2.2.2.2.1 (C 3).2.2.2.2.2, Value.slice (C 4).1 (C 4).2.1 (C 4).2.2.1, .slice (C 4).2.2.2.1 (C 4).2.2.2.2.1 (C 4).2.2.2.2.2] 28))
    have hbn : RowAt (w7.alloc (.cells #[Value.slice (C 0).1 (C 0).2.1 (C 0).2.2.1, .slice (C 0).2.2.2.1 (C 0).2.2.2.2.1 (C 0).2.2.2.2.2, Value.slice (C 1).1 (C 1).2.1 (C 1).2.2.1, .slice (C 1).2.2.2.1 (C 1).2.2.2.2.1 (C 1).2.2.2.2.2, Value.slice (C 2).1 (C 2).2.1 (C 2).2.2.1, .slice (C 2).2.2.2.1 (C 2).2.2.2.2.1 (C 2).2.2.2.2.2, Value.slice (C 3).1 (C 3).2.1 (C 3).2.2.1, .slice (C 3).2.2.2.1 (C 3).2.2.2.2.1 (C 3).2.2.2.2.2, Value.slice (C 4).1 (C 4).2.1 (C 4).2.2.1, .slice (C 4).2.2.2.1 (C 4).2.2.2.2.1 (C 4).2.2.2.2.2] 28)) w7.heap.size 28 (dcells (hv C)) := RowAt.new _ _ _
    have HBN := Lib.hid hbn
    have HVC := Lib.hid (howC.view.ext (Ext.alloc w7 (.cells #[Value.slice (C 0).1 (C 0).2.1 (C 0).2.2.1, .slice (C 0).2.2.2.1 (C 0).2.2.2.2.1 (C 0).2.2.2.2.2, Value.slice (C 1).1 (C 1).2.1 (C 1).2.2.1, .slice (C 1).2.2.2.1 (C 1).2.2.2.2.1 (C 1).2.2.2.2.2, Value.slice (C 2).1 (C 2).2.1 (C 2).2.2.1, .slice (C 2).2.2.2.1 (C 2).2.2.2.2.1 (C 2).2.2.2.2.2, Value.slice (C 3).1 (C 3).2.1 (C 3).2.2.1, .slice (C 3).2.2.2.1 (C 3).2.2.2.2.1 (C 3).2.2.2.2.2, Value.slice (C 4).1 (C 4).2.1 (C 4).2.2.1, .slice (C 4).2.2.2.1 (C 4).2.2.2.2.1 (C 4).2.2.2.2.2] 28)))
    have HSC : Hid (DicS DC) := Lib.hid (hokC.sizes (fun i hi => (hNC i hi).2))
    have HNC : Hid (∀ i, i < 5 → (DC i).1 = (cutD D i).1) := Lib.hid (fun i hi => (hNC i hi).1.trans (HMI.out i hi))
    have HOC := Lib.hid hokC
    replace HB := Lib.hid (HB.out.ext hx7)
    replace HX := Lib.hid (HX.out.trans hx7)
    replace HBB := Lib.hid (HBB.out.ext hx7)
    replace HVB := Lib.hid (HVB.out.ext hx7)
    have HI7 := Lib.hid (HI6.out.ext hx7)
    obtain ⟨z, hz⟩ : ∃ z, w7.heap.size = z := ⟨_, rfl⟩
    clear hbn hx7 hx7' HRD howC hokC hNC HI6
    go_upto_region 9 with fail
    generalize w7.alloc (.cells #[Value.slice (C 0).1 (C 0).2.1 (C 0).2.2.1, .slice (C 0).2.2.2.1 (C 0).2.2.2.2.1 (C 0).2.2.2.2.2, Value.slice (C 1).1 (C 1).2.1 (C 1).2.2.1, .slice (C 1).2.2.2.1 (C 1).2.2.2.2.1 (C 1).2.2.2.2.2, Value.slice (C 2).1 (C 2).2.1 (C 2).2.2.1, .slice (C 2).2.2.2.1 (C 2).2.2.2.2.1 (C 2).2.2.2.2.2, Value.slice (C 3).1 (C 3).2.1 (C 3).2.2.1, .slice (C 3).2.2.2.1 (C 3).2.2.2.2.1 (C 3).2.2.2.2.2, Value.slice (C 4).1 (C 4).2.1 (C 4).2.2.1, .slice (C 4).2.2.2.1 (C 4).2.2.2.2.1 (C 4).2.2.2.2.2] 28) = w8 at *
    rw [hz] at *
    clear hz
    obtain ⟨c0, c1, c2, c3, c4, c5, c6, c7, c8, c9⟩ := RowAt.facts10 (vs := hv B) (HBB.out)
    unfold hv at c0 c1 c2 c3 c4 c5 c6 c7 c8 c9
    dsimp only at c0 c1 c2 c3 c4 c5 c6 c7 c8 c9
    obtain ⟨e0, e1, e2, e3, e4, e5, e6, e7, e8, e9⟩ := RowAt.facts10 (vs := hv C) (HBN.out)
    unfold hv at e0 e1 e2 e3 e4 e5 e6 e7 e8 e9
    dsimp only at e0 e1 e2 e3 e4 e5 e6 e7 e8 e9
    have hcon := dsame_yes (hv C) (hv B) DC (cutD D) w8 HVC.out HVB.out HNC.out
    try unfold dv at hcon
    try unfold nv at hcon
    try unfold dcells at hcon
    try unfold ncells at hcon
    try unfold nsA at hcon
    try unfold ofV at hcon
    try unfold noV at hcon
    try unfold noN at hcon
    try unfold hv at hcon
    try dsimp only at hcon
    have HSM := Lib.hid hcon
    clear hcon
    go_wp2_with fail
    refine HSM.out.mono ?_
    rintro e w9 ⟨rfl, hx9⟩
    replace HB := Lib.hid (HB.out.ext hx9)
    replace HX := Lib.hid (HX.out.trans hx9)
    replace HBB := Lib.hid (HBB.out.ext hx9)
    replace HVB := Lib.hid (HVB.out.ext hx9)
    clear c0 c1 c2 c3 c4 c5 c6 c7 c8 c9
    clear e0 e1 e2 e3 e4 e5 e6 e7 e8 e9
    replace HBN := Lib.hid (HBN.out.ext hx9)
    replace HVC := Lib.hid (HVC.out.ext hx9)
    obtain ⟨e0, e1, e2, e3, e4, e5, e6, e7, e8, e9⟩ := RowAt.facts10 (vs := hv C) (HBN.out)
    unfold hv at e0 e1 e2 e3 e4 e5 e6 e7 e8 e9
    dsimp only at e0 e1 e2 e3 e4 e5 e6 e7 e8 e9
    have hcon := dcheck_yes (hv C) DC w9 HVC.out HSC.out HOC.out
    try unfold dv at hcon
    try unfold nv at hcon
    try unfold dcells at hcon
    try unfold ncells at hcon
    try unfold nsA at hcon
    try unfold ofV at hcon
    try unfold noV at hcon
    try unfold noN at hcon
    try unfold hv at hcon
    try dsimp only at hcon
    have HCK := Lib.hid hcon
    clear hcon
    clear HSM
    go_wp2_with fail
    refine HCK.out.mono ?_
    rintro e wa ⟨rfl, hxa⟩
    replace HB := Lib.hid (HB.out.ext hxa)
    replace HX := Lib.hid (HX.out.trans hxa)
    replace HBB := Lib.hid (HBB.out.ext hxa)
    replace HVB := Lib.hid (HVB.out.ext hxa)
    clear e0 e1 e2 e3 e4 e5 e6 e7 e8 e9
    have HC2 := Lib.hid (dconcat2 _ _ Q P wa _ rfl (HI2.out.ext HX.out) (HI1.out.ext HX.out) (by omega))
    clear HCK hxa hx9 HI7
    go_wp2_with fail
    refine HC2.out.mono ?_
    rintro e wb ⟨ub, rfl, hub, hxb'⟩
    have hxb := hxb'
    replace HB := Lib.hid (HB.out.ext hxb)
    replace HX := Lib.hid (HX.out.trans hxb)
    replace HBB := Lib.hid (HBB.out.ext hxb)
    replace HVB := Lib.hid (HVB.out.ext hxb)
    have hib := Own.ints hub
    obtain ⟨aub, cub, rfl⟩ := own_sl hub
    have hbt2 : Byt (Q ++ P) := HQ.out.1.append HP.out.1
    have hll2 : (Q ++ P).length ≤ 100 := by rw [List.length_append]; omega
    have hcb : (Q ++ P).length ≤ cub := by obtain ⟨_, _, e, h1, h2⟩ := Sl.shape hib; simp only [Value.slice.injEq] at e; omega
    have hcb2 : cub ≤ 9223372036854775807 := by obtain ⟨_, _, e, h1, h2⟩ := Sl.shape hib; simp only [Value.slice.injEq] at e; omega
    generalize Q ++ P = b at *
    have HIB := Lib.hid hib
    clear HC2 hxb hxb' hub hib
    cases hrt : readTo b 0 5 with
    | none =>
      have hcon := dread_none (p := 0) hbt2 HIB.out (by omega) (by omega) hrt
      try unfold dv at hcon
      try unfold nv at hcon
      try unfold dcells at hcon
      try unfold ncells at hcon
      try unfold nsA at hcon
      try unfold ofV at hcon
      try unfold noV at hcon
      try unfold noN at hcon
      try unfold hv at hcon
      try dsimp only at hcon
      have HRD := Lib.hid hcon
      clear hcon
      go_wp2_with fail
      refine HRD.out.mono ?_
      rintro e wc ⟨rfl, hxc⟩
      have HXF := Lib.hid ((HX.out.trans hxc).trans (Ext.alloc wc (.cells #[.slice none 0 0, .slice none 0 0, .slice none 0 0, .slice none 0 0, .slice none 0 0, .slice none 0 0, .slice none 0 0, .slice none 0 0, .slice none 0 0, .slice none 0 0] 28)))
      go_wp2_with fail
      go_ret
      exact ⟨rfl, HXF.out⟩
    | some r =>
      obtain ⟨M2, q2⟩ := r
      obtain ⟨r1, r2, r3⟩ := readTo_inv hbt2 (Nat.zero_le _) 5 M2 q2 hrt
      rw [List.drop_zero, Nat.sub_zero] at r1
      have hcon := dread_ok (p := 0) hbt2 HIB.out (by omega) (by omega) hrt
      try unfold dv at hcon
      try unfold nv at hcon
      try unfold dcells at hcon
      try unfold ncells at hcon
      try unfold nsA at hcon
      try unfold ofV at hcon
      try unfold noV at hcon
      try unfold noN at hcon
      try unfold hv at hcon
      try dsimp only at hcon
      have HRD := Lib.hid hcon
      clear hcon
      go_wp2_with fail
      refine HRD.out.mono ?_
      rintro e wc ⟨E, DE, rfl, howE, hokE, hNE, hxc'⟩
      have hxc := hxc'.trans (Ext.alloc wc (.cells #[Value.slice (E 0).1 (E 0).2.1 (E 0).2.2.1, .slice (E 0).2.2.2.1 (E 0).2.2.2.2.1 (E 0).2.2.2.2.2, Value.slice (E 1).1 (E 1).2.1 (E 1).2.2.1, .slice (E 1).2.2.2.1 (E 1).2.2.2.2.1 (E 1).2.2.2.2.2, Value.slice (E 2).1 (E 2).2.1 (E 2).2.2.1, .slice (E 2).2.2.2.1 (E 2).2.2.2.2.1 (E 2).2.2.2.2.2, Value.slice (E 3).1 (E 3).2.1 (E 3).2.2.1, .slice (E 3).2.2.2.1 (E 3).2.2.2.2.1 (E 3).2.2.2.2.2, Value.slice (E 4).1 (E 4).2.1 (E 4).2.2.1, .slice (E 4).2.2.2.1 (E 4).2.2.2.2.1 (E 4).2.2.2.2.2] 28))
      have hbn : RowAt (wc.alloc (.cells #[Value.slice (E 0).1 (E 0).2.1 (E 0).2.2.1, .slice (E 0).2.2.2.1 (E 0).2.2.2.2.1 (E 0).2.2.2.2.2, Value.slice (E 1).1 (E 1).2.1 (E 1).2.2.1, .slice (E 1).2.2.2.1 (E 1).2.2.2.2.1 (E 1).2.2.2.2.2, Value.slice (E 2).1 (E 2).2.1 (E 2).2.2.1, .slice (E 2).2.2.2.1 (E 2).2.2.2.2.1 (E 2).2.2.2.2.2, Value.slice (E 3).1 (E 3).2.1 (E 3).2.2.1, .slice (E 3).2.2.2.1 (E 3).2.2.2.2.1 (E 3).2.2.2.2.2, Value.slice (E 4).1 (E 4).2.1 (E 4).2.2.1, .slice (E 4).2.2.2.1 (E 4).2.2.2.2.1 (E 4).2.2.2.2.2] 28)) wc.heap.size 28 (dcells (hv E)) := RowAt.new _ _ _
      have HBE := Lib.hid hbn
      have HVE := Lib.hid (howE.view.ext (Ext.alloc wc (.cells #[Value.slice (E 0).1 (E 0).2.1 (E 0).2.2.1, .slice (E 0).2.2.2.1 (E 0).2.2.2.2.1 (E 0).2.2.2.2.2, Value.slice (E 1).1 (E 1).2.1 (E 1).2.2.1, .slice (E 1).2.2.2.1 (E 1).2.2.2.2.1 (E 1).2.2.2.2.2, Value.slice (E 2).1 (E 2).2.1 (E 2).2.2.1, .slice (E 2).2.2.2.1 (E 2).2.2.2.2.1 (E 2).2.2.2.2.2, Value.slice (E 3).1 (E 3).2.1 (E 3).2.2.1, .slice (E 3).2.2.2.1 (E 3).2.2.2.2.1 (E 3).2.2.2.2.2, Value.slice (E 4).1 (E 4).2.1 (E 4).2.2.1, .slice (E 4).2.2.2.1 (E 4).2.2.2.2.1 (E 4).2.2.2.2.2] 28)))
      have HSE : Hid (DicS DE) := Lib.hid (hokE.sizes (fun i hi => (hNE i hi).2))
      have HRE : Hid (bytesTo (ofD DE) 5 = b.take q2) := Lib.hid (by rw [r1]; exact bytesTo_congr 5 (fun i hi => (hNE i hi).1))
      have HOE := Lib.hid hokE
      replace HB := Lib.hid (HB.out.ext hxc)
      replace HX := Lib.hid (HX.out.trans hxc)
      replace HBB := Lib.hid (HBB.out.ext hxc)
      replace HVB := Lib.hid (HVB.out.ext hxc)
      have HIC := Lib.hid (HIB.out.ext hxc)
      obtain ⟨x, hx⟩ : ∃ x, wc.heap.size = x := ⟨_, rfl⟩
      clear hbn hxc hxc' HRD howE hokE hNE r1 r2
      go_upto_region 13 with fail
      generalize wc.alloc (.cells #[Value.slice (E 0).1 (E 0).2.1 (E 0).2.2.1, .slice (E 0).2.2.2.1 (E 0).2.2.2.2.1 (E 0).2.2.2.2.2, Value.slice (E 1).1 (E 1).2.1 (E 1).2.2.1, .slice (E 1).2.2.2.1 (E 1).2.2.2.2.1 (E 1).2.2.2.2.2, Value.slice (E 2).1 (E 2).2.1 (E 2).2.2.1, .slice (E 2).2.2.2.1 (E 2).2.2.2.2.1 (E 2).2.2.2.2.2, Value.slice (E 3).1 (E 3).2.1 (E 3).2.2.1, .slice (E 3).2.2.2.1 (E 3).2.2.2.2.1 (E 3).2.2.2.2.2, Value.slice (E 4).1 (E 4).2.1 (E 4).2.2.1, .slice (E 4).2.2.2.1 (E 4).2.2.2.2.1 (E 4).2.2.2.2.2] 28) = wd at *
      rw [hx] at *
      clear hx
      obtain ⟨e0, e1, e2, e3, e4, e5, e6, e7, e8, e9⟩ := RowAt.facts10 (vs := hv E) (HBE.out)
      unfold hv at e0 e1 e2 e3 e4 e5 e6 e7 e8 e9
      dsimp only at e0 e1 e2 e3 e4 e5 e6 e7 e8 e9
      have hcon := dbytes_yes (hv E) DE wd HVE.out HSE.out HOE.out
      try unfold dv at hcon
      try unfold nv at hcon
      try unfold dcells at hcon
      try unfold ncells at hcon
      try unfold nsA at hcon
      try unfold ofV at hcon
      try unfold noV at hcon
      try unfold noN at hcon
      try unfold hv at hcon
      try dsimp only at hcon
      have HBY := Lib.hid hcon
      clear hcon
      go_wp2_with fail
      refine HBY.out.mono ?_
      rintro e we ⟨ue, rfl, hue, hxe⟩
      rw [HRE.out] at hue
      have hie := Own.ints hue
      obtain ⟨aue, cue, rfl⟩ := own_sl hue
      have hib := (HIC.out.ext hxe).take q2 r3
      have HEQ := Lib.hid (ext_of_drew (equalB_yes _ _ _ _ we hie hib rfl))
      have HXF := Lib.hid (HX.out.trans hxe)
      have hq2 : q2 ≤ cub := by omega
      clear e0 e1 e2 e3 e4 e5 e6 e7 e8 e9
      clear HBY hue hie hib hxe HRE
      generalize (List.take q2 b).length = tq at *
      go_wp2_with fail
      refine HEQ.out.mono ?_
      rintro e wf ⟨rfl, hxf⟩
      go_wp2_with fail
      go_ret
      exact ⟨rfl, HXF.out.trans hxf⟩
  · obtain ⟨c0, c1, c2, c3, c4, c5, c6, c7, c8, c9⟩ := RowAt.facts10 (vs := hv B) (HBB.out)
    unfold hv at c0 c1 c2 c3 c4 c5 c6 c7 c8 c9
    dsimp only at c0 c1 c2 c3 c4 c5 c6 c7 c8 c9
    have hcon := dbytes_no (hv B) (cutD D) w3 HVB.out HSZ.out hok
    try unfold dv at hcon
    try unfold nv at hcon
    try unfold dcells at hcon
    try unfold ncells at hcon
    try unfold nsA at hcon
    try unfold ofV at hcon
    try unfold noV at hcon
    try unfold noN at hcon
    try unfold hv at hcon
    try dsimp only at hcon
    have HC1 := Lib.hid hcon
    clear hcon
    go_wp2_with fail
    refine HC1.out.mono ?_
    rintro e w4 ⟨rfl, hx4⟩
    replace HB := Lib.hid (HB.out.ext hx4)
    replace HX := Lib.hid (HX.out.trans hx4)
    replace HBB := Lib.hid (HBB.out.ext hx4)
    replace HVB := Lib.hid (HVB.out.ext hx4)
    clear c0 c1 c2 c3 c4 c5 c6 c7 c8 c9
    obtain ⟨c0, c1, c2, c3, c4, c5, c6, c7, c8, c9⟩ := RowAt.facts10 (vs := hv B) (HBB.out)
    unfold hv at c0 c1 c2 c3 c4 c5 c6 c7 c8 c9
    dsimp only at c0 c1 c2 c3 c4 c5 c6 c7 c8 c9
    have hcon := dcheck_no (hv B) (cutD D) w4 HVB.out HSZ.out hok
    try unfold dv at hcon
    try unfold nv at hcon
    try unfold dcells at hcon
    try unfold ncells at hcon
    try unfold nsA at hcon
    try unfold ofV at hcon
    try unfold noV at hcon
    try unfold noN at hcon
    try unfold hv at hcon
    try dsimp only at hcon
    have HC2 := Lib.hid hcon
    clear hcon
    clear HC1 hx4
    go_wp2_with fail
    refine HC2.out.mono ?_
    rintro e w7 ⟨rfl, hx7⟩
    clear c0 c1 c2 c3 c4 c5 c6 c7 c8 c9
    have HXF := Lib.hid (HX.out.trans hx7)
    go_wp2_with fail
    go_ret
    exact ⟨rfl, HXF.out⟩
end Go.Proofs.Ytogoejlbdbapoaa
