/- DictTells: the walk over a dictionary that may not be. -/
import Derived.Test.YtogoejlbdbapoaaDicTl
namespace Go.Proofs.Ytogoejlbdbapoaa
set_option maxRecDepth 100000
set_option maxHeartbeats 2000000
set_option linter.unusedSimpArgs false
open Go.RowKit Go.Shelf Go.Sort
attribute [local go_sem] Oper.semAt_some wide_fn wide_depth
set_option linter.unusedVariables false

set_option maxRecDepth 100000 in
set_option maxHeartbeats 4000000 in
theorem dtells_no (v0 : Value) (D : Dic) (v1 : Value) (L : List ByteArray) (v2 : Value) (N : List Int) (w : World)
    (h0 : ∃ vs, v0 = dv vs ∧ DicV w vs D ∧ ∀ i, i < 5 → ∀ s ∈ (D i).1, s.size ≤ 9223372036854775807) (h1 : Strs w v1 L ∧ ∀ s ∈ L, s.size ≤ 9223372036854775807) (h2 : Ints w .i64 v2 N) (h3 : ∀ x ∈ N, -9223372036854775808 ≤ x ∧ x ≤ 9223372036854775807) (hok : ¬ DicOK (cutD D)) :
    Calls Try.prog 7 #[v0, v1, v2] w fun e w' => e = .returned (.bool true) ∧ Ext w w' := by
  have hmo : Try.prog.follows .mixedOrders = true := by kernel_rfl
  obtain ⟨hL, hLs⟩ := h1
  obtain ⟨aL, cL, rfl, hcL, hmL⟩ := Sl.shape hL
  obtain ⟨a2, cap2, rfl, hcap2, hmax2, _⟩ := h2.open_
  have H1 := Lib.hid hL
  have HLS := Lib.hid hLs
  have H2 := Lib.hid h2
  have H3 := Lib.hid h3
  clear hL hLs h2 h3
  obtain ⟨vs, rfl, hV0, hs0⟩ := h0
  obtain ⟨A, hA1, hA2⟩ := heads hV0.shape
  rw [show dv vs = dv (hv A) from by unfold dv; rw [hA2]]
  have hV : DicV w (hv A) D := fun i hi => by rw [← hA1 i hi]; exact hV0 i hi
  clear hA1 hA2 hV0
  have hbx : RowAt (w.alloc (.cells #[Value.slice (A 0).1 (A 0).2.1 (A 0).2.2.1, .slice (A 0).2.2.2.1 (A 0).2.2.2.2.1 (A 0).2.2.2.2.2, Value.slice (A 1).1 (A 1).2.1 (A 1).2.2.1, .slice (A 1).2.2.2.1 (A 1).2.2.2.2.1 (A 1).2.2.2.2.2, Value.slice (A 2).1 (A 2).2.1 (A 2).2.2.1, .slice (A 2).2.2.2.1 (A 2).2.2.2.2.1 (A 2).2.2.2.2.2, Value.slice (A 3).1 (A 3).2.1 (A 3).2.2.1, .slice (A 3).2.2.2.1 (A 3).2.2.2.2.1 (A 3).2.2.2.2.2, Value.slice (A 4).1 (A 4).2.1 (A 4).2.2.1, .slice (A 4).2.2.2.1 (A 4).2.2.2.2.1 (A 4).2.2.2.2.2] 28)) w.heap.size 28 (dcells (hv A)) := RowAt.new _ _ _
  have hx0 := Ext.alloc w (.cells #[Value.slice (A 0).1 (A 0).2.1 (A 0).2.2.1, .slice (A 0).2.2.2.1 (A 0).2.2.2.2.1 (A 0).2.2.2.2.2, Value.slice (A 1).1 (A 1).2.1 (A 1).2.2.1, .slice (A 1).2.2.2.1 (A 1).2.2.2.2.1 (A 1).2.2.2.2.2, Value.slice (A 2).1 (A 2).2.1 (A 2).2.2.1, .slice (A 2).2.2.2.1 (A 2).2.2.2.2.1 (A 2).2.2.2.2.2, Value.slice (A 3).1 (A 3).2.1 (A 3).2.2.1, .slice (A 3).2.2.2.1 (A 3).2.2.2.2.1 (A 3).2.2.2.2.2, Value.slice (A 4).1 (A 4).2.1 (A 4).2.2.1, .slice (A 4).2.2.2.1 (A 4).2.2.2.2.1 (A 4).2.2.2.2.2] 28)
  have HV := Lib.hid hV
  have HB := Lib.hid hbx
  have HX := Lib.hid hx0
  have HSZ := Lib.hid (cutD_s hs0)
  clear hV hbx hx0 hs0
  unfold dv dcells hv
  dsimp only
  go_enter Try.func7, Try.ntmps7
  go_upto_region 1 with fail
  generalize w.alloc (.cells #[Value.slice (A 0).1 (A 0).2.1 (A 0).2.2.1, .slice (A 0).2.2.2.1 (A 0).2.2.2.2.1 (A 0).2.2.2.2.2, Value.slice (A 1).1 (A 1).2.1 (A 1).2.2.1, .slice (A 1).2.2.2.1 (A 1).2.2.2.2.1 (A 1).2.2.2.2.2, Value.slice (A 2).1 (A 2).2.1 (A 2).2.2.1, .slice (A 2).2.2.2.1 (A 2).2.2.2.2.1 (A 2).2.2.2.2.2, Value.slice (A 3).1 (A 3).2.1 (A 3).2.2.1, .slice (A 3).2.2.2.1 (A 3).2.2.2.2.1 (A 3).2.2.2.2.2, Value.slice (A 4).1 (A 4).2.1 (A 4).2.2.1, .slice (A 4).2.2.2.1 (A 4).2.2.2.2.1 (A 4).2.2.2.2.2] 28) = wa at *
  go_wp2_with fail
  refine (dwakes_any _).mono ?_
  rintro e w1 ⟨rfl, hx1⟩
  replace HB := Lib.hid (HB.out.ext hx1)
  replace HX := Lib.hid (HX.out.trans hx1)
  clear hx1
  obtain ⟨c0, c1, c2, c3, c4, c5, c6, c7, c8, c9⟩ := RowAt.facts10 (vs := hv A) (HB.out)
  unfold hv at c0 c1 c2 c3 c4 c5 c6 c7 c8 c9
  dsimp only at c0 c1 c2 c3 c4 c5 c6 c7 c8 c9
  have hcon := lawOwn_hv A D w1 (HV.out.ext HX.out)
  try unfold dv at hcon
  try unfold nv at hcon
  try unfold dcells at hcon
  try unfold ncells at hcon
  try unfold nsA at hcon
  try unfold ofV at hcon
  try unfold noV at hcon
  try unfold noN at hcon
  try unfold hv at hcon
  try dsimp only at hcon
  have HOW := Lib.hid hcon
  clear hcon
  go_wp2_with fail
  refine HOW.out.mono ?_
  rintro e w2 ⟨B, rfl, hown2, hx2⟩
  clear c0 c1 c2 c3 c4 c5 c6 c7 c8 c9
  have hx3 := hx2.trans (Ext.alloc w2 (.cells #[Value.slice (B 0).1 (B 0).2.1 (B 0).2.2.1, .slice (B 0).2.2.2.1 (B 0).2.2.2.2.1 (B 0).2.2.2.2.2, Value.slice (B 1).1 (B 1).2.1 (B 1).2.2.1, .slice (B 1).2.2.2.1 (B 1).2.2.2.2.1 (B 1).2.2.2.2.2, Value.slice (B 2).1 (B 2).2.1 (B 2).2.2.1, .slice (B 2).2.2.2.1 (B 2).2.2.2.2.1 (B 2).2.2.2.2.2, Value.slice (B 3).1 (B 3).2.1 (B 3).2.2.1, .slice (B 3).2.2.2.1 (B 3).2.2.2.2.1 (B 3).2.2.2.2.2, Value.slice (B 4).1 (B 4).2.1 (B 4).2.2.1, .slice (B 4).2.2.2.1 (B 4).2.2.2.2.1 (B 4).2.2.2.2.2] 28))
  replace HB := Lib.hid (HB.out.ext hx3)
  replace HX := Lib.hid (HX.out.trans hx3)
  have HBB : Hid (RowAt (w2.alloc (.cells #[Value.slice (B 0).1 (B 0).2.1 (B 0).2.2.1, .slice (B 0).2.2.2.1 (B 0).2.2.2.2.1 (B 0).2.2.2.2.2, Value.slice (B 1).1 (B 1).2.1 (B 1).2.2.1, .slice (B 1).2.2.2.1 (B 1).2.2.2.2.1 (B 1).2.2.2.2.2, Value.slice (B 2).1 (B 2).2.1 (B 2).2.2.1, .slice (B 2).2.2.2.1 (B 2).2.2.2.2.1 (B 2).2.2.2.2.2, Value.slice (B 3).1 (B 3).2.1 (B 3).2.2.1, .slice (B 3).2.2.2.1 (B 3).2.2.2.2.1 (B 3).2.2.2.2.2, Value.slice (B 4).1 (B 4).2.1 (B 4).2.2.1, .slice (B 4).2.2.2.1 (B 4).2.2.2.2.1 (B 4).2.2.2.2.2] 28)) w2.heap.size 28 (dcells (hv B))) := Lib.hid (RowAt.new _ _ _)
  have HVB := Lib.hid (hown2.view.ext (Ext.alloc w2 (.cells #[Value.slice (B 0).1 (B 0).2.1 (B 0).2.2.1, .slice (B 0).2.2.2.1 (B 0).2.2.2.2.1 (B 0).2.2.2.2.2, Value.slice (B 1).1 (B 1).2.1 (B 1).2.2.1, .slice (B 1).2.2.2.1 (B 1).2.2.2.2.1 (B 1).2.2.2.2.2, Value.slice (B 2).1 (B 2).2.1 (B 2).2.2.1, .slice (B 2).2.2.2.1 (B 2).2.2.2.2.1 (B 2).2.2.2.2.2, Value.slice (B 3).1 (B 3).2.1 (B 3).2.2.1, .slice (B 3).2.2.2.1 (B 3).2.2.2.2.1 (B 3).2.2.2.2.2, Value.slice (B 4).1 (B 4).2.1 (B 4).2.2.1, .slice (B 4).2.2.2.1 (B 4).2.2.2.2.1 (B 4).2.2.2.2.2] 28)))
  obtain ⟨y, hy⟩ : ∃ y, w2.heap.size = y := ⟨_, rfl⟩
  clear hx3 hx2 hown2 HOW
  go_upto_region 4 with fail
  generalize w2.alloc (.cells #[Value.slice (B 0).1 (B 0).2.1 (B 0).2.2.1, .slice (B 0).2.2.2.1 (B 0).2.2.2.2.1 (B 0).2.2.2.2.2, Value.slice (B 1).1 (B 1).2.1 (B 1).2.2.1, .slice (B 1).2.2.2.1 (B 1).2.2.2.2.1 (B 1).2.2.2.2.2, Value.slice (B 2).1 (B 2).2.1 (B 2).2.2.1, .slice (B 2).2.2.2.1 (B 2).2.2.2.2.1 (B 2).2.2.2.2.2, Value.slice (B 3).1 (B 3).2.1 (B 3).2.2.1, .slice (B 3).2.2.2.1 (B 3).2.2.2.2.1 (B 3).2.2.2.2.2, Value.slice (B 4).1 (B 4).2.1 (B 4).2.2.1, .slice (B 4).2.2.2.1 (B 4).2.2.2.2.1 (B 4).2.2.2.2.2] 28) = w3 at *
  rw [hy] at *
  clear hy
  have HRK := Lib.hid hok
  obtain ⟨c0, c1, c2, c3, c4, c5, c6, c7, c8, c9⟩ := RowAt.facts10 (vs := hv B) (HBB.out)
  unfold hv at c0 c1 c2 c3 c4 c5 c6 c7 c8 c9
  dsimp only at c0 c1 c2 c3 c4 c5 c6 c7 c8 c9
  have hcon := dright_no (hv B) (cutD D) w3 HVB.out HSZ.out hok
  try unfold dv at hcon
  try unfold nv at hcon
  try unfold dcells at hcon
  try unfold ncells at hcon
  try unfold nsA at hcon
  try unfold ofV at hcon
  try unfold noV at hcon
  try unfold noN at hcon
  try unfold hv at hcon
  try dsimp only at hcon
  have HC2 := Lib.hid hcon
  clear hcon
  clear hok
  go_wp2_with fail
  refine HC2.out.mono ?_
  rintro e w4 ⟨rfl, hx4'⟩
  replace HB := Lib.hid (HB.out.ext hx4')
  replace HX := Lib.hid (HX.out.trans hx4')
  replace HBB := Lib.hid (HBB.out.ext hx4')
  replace HVB := Lib.hid (HVB.out.ext hx4')
  have hxn := Ext.alloc w4 (.cells #[.slice none 0 0, .slice none 0 0, .slice none 0 0, .slice none 0 0, .slice none 0 0] 37)
  have hbn : RowAt (w4.alloc (.cells #[.slice none 0 0, .slice none 0 0, .slice none 0 0, .slice none 0 0, .slice none 0 0] 37)) w4.heap.size 37 (ncells noN) := RowAt.new _ _ _
  have HNB := Lib.hid hbn
  have hnv : NamV (w4.alloc (.cells #[.slice none 0 0, .slice none 0 0, .slice none 0 0, .slice none 0 0, .slice none 0 0] 37)) noN (seenN false (cutD D)) := fun i hi => Sl.nil _
  have HNV := Lib.hid hnv
  clear c0 c1 c2 c3 c4 c5 c6 c7 c8 c9
  replace HB := Lib.hid (HB.out.ext hxn)
  replace HX := Lib.hid (HX.out.trans hxn)
  replace HBB := Lib.hid (HBB.out.ext hxn)
  replace HVB := Lib.hid (HVB.out.ext hxn)
  obtain ⟨z, hz⟩ : ∃ z, w4.heap.size = z := ⟨_, rfl⟩
  clear hx4' hbn hxn HC2 hnv
  go_upto_region 6 with fail
  generalize w4.alloc (.cells #[.slice none 0 0, .slice none 0 0, .slice none 0 0, .slice none 0 0, .slice none 0 0] 37) = w5 at *
  rw [hz] at HNB
  try simp only [hz]
  clear hz
  go_wp2_with fail
  go_loopg [10] 7 (fun g i wr => ∃ kind : Int, -1 ≤ kind ∧ kind ≤ 6 ∧ g = (6 - kind).toNat ∧ i = .int .i64 kind ∧ Ext w5 wr)
  case atStart => exact ⟨-1, by omega, by omega, rfl, rfl, Ext.refl _⟩
  case round =>
    obtain ⟨kind, hk0, hk6, hg, rfl, hxr⟩ := hrel
    have Hg := Lib.hid hg
    have HBr := Lib.hid (HB.out.ext hxr)
    have HXr := Lib.hid (HX.out.trans hxr)
    have HBBr := Lib.hid (HBB.out.ext hxr)
    have HVBr := Lib.hid (HVB.out.ext hxr)
    have HNBr := Lib.hid (HNB.out.ext hxr)
    have HNVr := Lib.hid (NamV.ext HNV.out hxr)
    have HX5 := Lib.hid hxr
    clear hg HB HX HBB HVB HNB HNV hxr
    by_cases hlt : kind ≤ 5
    · by_cases hkr : 0 ≤ kind ∧ kind < 5
      · obtain ⟨k, rfl⟩ := Int.eq_ofNat_of_zero_le hkr.1
        have hk5 : k < 5 := by omega
        have hki : (k : Int) < 5 := by omega
        have HALL : Hid (Strs wr (.slice none 0 0) (allN (seenN false (cutD D)) (k : Int))) := Lib.hid (by
          have h := HNVr.out k hk5
          unfold allN
          rw [if_pos hkr]
          exact h)
        have hnc := HNBr.out.cell (i := k) (ncells_at _ hk5)
        try unfold ofV at hnc
        try unfold hv at hnc
        try unfold noN at hnc
        try dsimp only at hnc
        clear hkr
        obtain ⟨c0, c1, c2, c3, c4, c5, c6, c7, c8, c9⟩ := RowAt.facts10 (vs := hv B) (HBBr.out)
        unfold hv at c0 c1 c2 c3 c4 c5 c6 c7 c8 c9
        dsimp only at c0 c1 c2 c3 c4 c5 c6 c7 c8 c9
        have hcon := tellNames false (hv B) (cutD D) wr HVBr.out HSZ.out (iff_of_false (by decide) HRK.out) (k : Int)
        try unfold dv at hcon
        try unfold nv at hcon
        try unfold dcells at hcon
        try unfold ncells at hcon
        try unfold nsA at hcon
        try unfold ofV at hcon
        try unfold noV at hcon
        try unfold noN at hcon
        try unfold hv at hcon
        try dsimp only at hcon
        have HNM := Lib.hid hcon
        clear hcon
        obtain ⟨all, hall⟩ : ∃ x, allN (seenN false (cutD D)) (k : Int) = x := ⟨_, rfl⟩
        rw [hall] at HALL HNM
        have HAE := Lib.hid hall
        clear hall
        go_wp2_with fail
        refine HNM.out.mono ?_
        rintro e w6 ⟨u6, rfl, hu6, hx6⟩
        clear c0 c1 c2 c3 c4 c5 c6 c7 c8 c9
        obtain ⟨au6, cu6, rfl⟩ := own_sl hu6
        have HEQ := Lib.hid (ext_of_drew (equalS_yes _ _ _ _ w6 (Sl.of_own hu6) (HALL.out.ext hx6) rfl))
        have HU6 := Lib.hid hu6
        have HX6 := Lib.hid hx6
        clear HNM hu6 hx6
        go_wp2_with fail
        refine HEQ.out.mono ?_
        rintro e w7 ⟨rfl, hx7⟩
        have HU7 := Lib.hid (own_ext HU6.out hx7)
        have HX7 := Lib.hid (HX6.out.trans hx7)
        have hn7 : all.length ≤ 9223372036854775807 := by obtain ⟨_, _, e, h1, h2⟩ := Sl.shape (Sl.of_own HU6.out); simp only [Value.slice.injEq] at e; omega
        have HOR := Lib.hid (fun h : 0 < all.length => owned_row HU7.out h)
        obtain ⟨na, hna⟩ : ∃ x, all.length = x := ⟨_, rfl⟩
        have HNA := Lib.hid hna
        rw [hna] at hn7 HOR ⊢
        clear hna
        clear hx7 HEQ HU6 HX6
        go_wp2_with fail
        obtain ⟨wk, hwn⟩ : ∃ x, x = wr := ⟨_, rfl⟩
        subst hwn
        go_loopg [13, 56] na (fun g s13 i wi => ∃ j : Nat, j ≤ na ∧ g = na - j ∧ i = .int .i64 j ∧ Shp w7 wi ∧ Ext wk wi)
        case atStart => exact ⟨0, Nat.zero_le _, rfl, rfl, Shp.refl _, HX7.out⟩
        case round =>
          obtain ⟨j, hj, hg2, rfl, hsh, hxi⟩ := hrel
          have Hg2 := Lib.hid hg2
          clear hg2
          by_cases hlj : j < na
          · obtain ⟨gr, ys, rfl, hgB, hrow, hny⟩ := HOR.out (by omega)
            obtain ⟨ys', hr1, hr2⟩ := hsh gr _ ys hrow
            have hcell := hr1.cell (i := j) (v := ys'[j]'(by omega)) (List.getElem?_eq_getElem _)
            have hfro := hr1.frozen j
            have HF := Lib.hid (⟨hsh.set gr j (.string ⟨#[]⟩), hxi.setCell (p := ⟨gr, j, none⟩) hgB (.string ⟨#[]⟩)⟩ : Shp w7 (wr.setCell ⟨gr, j, none⟩ (.string ⟨#[]⟩)) ∧ Ext wk (wr.setCell ⟨gr, j, none⟩ (.string ⟨#[]⟩)))
            clear hrow hr1 hsh hxi
            go_wp2_with fail
            go_roundg (na - (j + 1))
            case measure => have := Hg2.out; omega
            case rel => exact ⟨j + 1, by omega, rfl, by go_num, HF.out⟩
          · have HXi := Lib.hid hxi
            clear hsh hxi HOR HU7 HX7
            go_wp2_with fail
            obtain ⟨wl, hwn⟩ : ∃ x, x = wr := ⟨_, rfl⟩
            subst hwn
            have HBl := Lib.hid (HBBr.out.ext HXi.out)
            have HVl := Lib.hid (HVBr.out.ext HXi.out)
            have HNl := Lib.hid (HNBr.out.ext HXi.out)
            have HNVl := Lib.hid (NamV.ext HNVr.out HXi.out)
            have HXl := Lib.hid (HXr.out.trans HXi.out)
            go_loopg [14, 15, 65] L.length (fun g s14 s15 i wi => ∃ j : Nat, j ≤ L.length ∧ g = L.length - j ∧ i = .int .i64 j ∧ Ext wl wi)
            case atStart => exact ⟨0, Nat.zero_le _, rfl, rfl, Ext.refl _⟩
            case round =>
              obtain ⟨j3, hj3, hg3, rfl, hx3⟩ := hrel
              have Hg3 := Lib.hid hg3
              have HX3 := Lib.hid hx3
              clear hg3 hx3
              by_cases hl3 : j3 < L.length
              · obtain ⟨b3, o3, rfl, hc3⟩ := (H1.out.ext (HXl.out.trans HX3.out)).at_ hl3
                by_cases h6 : j3 = 6
                · have he6 : ((j3 : Int) == 6) = true := by simp [h6]
                  clear h6
                  go_wp2_with fail
                  obtain ⟨wm, hwn⟩ : ∃ x, x = wr := ⟨_, rfl⟩
                  subst hwn
                  have HBm := Lib.hid (HBl.out.ext HX3.out)
                  have HVm := Lib.hid (HVl.out.ext HX3.out)
                  have HNm := Lib.hid (HNl.out.ext HX3.out)
                  have HXm := Lib.hid (HXl.out.trans HX3.out)
                  have HALm := Lib.hid (HALL.out.ext (HXi.out.trans HX3.out))
                  have HXk := Lib.hid ((HX5.out.trans HXi.out).trans HX3.out)
                  clear HBl HVl HNl HNVl HXl HX3 HXi HBBr HVBr HNBr HNVr HX5 HALL HXr HBr HNA
                  go_loopg [19, 20, 96] N.length (fun g s19 s20 i wi => ∃ j : Nat, j ≤ N.length ∧ g = N.length - j ∧ i = .int .i64 j ∧ Ext wm wi)
                  case atStart => exact ⟨0, Nat.zero_le _, rfl, rfl, Ext.refl _⟩
                  case round =>
                    obtain ⟨j4, hj4, hg4, rfl, hx4⟩ := hrel
                    have Hg4 := Lib.hid hg4
                    have HX4 := Lib.hid hx4
                    clear hg4 hx4
                    by_cases hl4 : j4 < N.length
                    · obtain ⟨b4, o4, rfl, hc4⟩ := (H2.out.ext (HXm.out.trans HX4.out)).atD hl4
                      by_cases h6 : j4 = 6
                      · subst h6
                        go_wp2_with fail
                        go_roundg ((6 - ((k : Int) + 1)).toNat)
                        case measure => have := Hg.out; omega
                        case rel => exact ⟨(k : Int) + 1, by omega, by omega, rfl, by go_num, HXk.out.trans HX4.out⟩
                      · have hne : ((j4 : Int) == 6) = false := by simp; omega
                        generalize N.getD j4 0 = q at hc4
                        have hval := tellName false (hv B) (cutD D) wr (HVm.out.ext HX4.out) HSZ.out (iff_of_false (by decide) HRK.out) (k : Int) q
                        rw [wantN_no] at hval
                        try have hk55 : 5 ≤ kind := by (have := of_decide_eq_false hkd; omega)
                        obtain ⟨c0, c1, c2, c3, c4, c5, c6, c7, c8, c9⟩ := RowAt.facts10 (vs := hv B) ((HBm.out.ext HX4.out))
                        unfold hv at c0 c1 c2 c3 c4 c5 c6 c7 c8 c9
                        dsimp only at c0 c1 c2 c3 c4 c5 c6 c7 c8 c9
                        have hcon := hval
                        try unfold dv at hcon
                        try unfold nv at hcon
                        try unfold dcells at hcon
                        try unfold ncells at hcon
                        try unfold nsA at hcon
                        try unfold ofV at hcon
                        try unfold noV at hcon
                        try unfold noN at hcon
                        try unfold hv at hcon
                        try dsimp only at hcon
                        have HTN := Lib.hid hcon
                        clear hcon
                        clear hval
                        go_wp2_with fail
                        refine HTN.out.mono ?_
                        rintro e wz ⟨rfl, hxz⟩
                        clear c0 c1 c2 c3 c4 c5 c6 c7 c8 c9
                        go_wp2_with fail
                        go_roundg (N.length - (j4 + 1))
                        case measure => have := Hg4.out; omega
                        case rel => exact ⟨j4 + 1, by omega, rfl, by go_num, HX4.out.trans hxz⟩
                    · go_wp2_with fail
                      go_roundg ((6 - ((k : Int) + 1)).toNat)
                      case measure => have := Hg.out; omega
                      case rel => exact ⟨(k : Int) + 1, by omega, by omega, rfl, by go_num, HXk.out.trans HX4.out⟩
                · have hne : ((j3 : Int) == 6) = false := by simp; omega
                  have hs3 := HLS.out _ (List.getElem_mem hl3)
                  generalize L[j3] = s at *
                  obtain ⟨f, hf⟩ : ∃ f, idN (seenN false (cutD D)) (k : Int) s = f := ⟨_, rfl⟩
                  have hti := tellId false (hv B) (cutD D) wr (HVl.out.ext HX3.out) HSZ.out (iff_of_false (by decide) HRK.out) (k : Int) s hs3
                  rw [hf] at hti
                  unfold idRes at hti
                  have hri := fun w' (hx : Ext wr w') => refId_any (noN) (seenN false (cutD D)) (k : Int) s w' (NamV.ext HNVl.out (HX3.out.trans hx))
                  rw [hf] at hri
                  obtain ⟨c0, c1, c2, c3, c4, c5, c6, c7, c8, c9⟩ := RowAt.facts10 (vs := hv B) ((HBl.out.ext HX3.out))
                  unfold hv at c0 c1 c2 c3 c4 c5 c6 c7 c8 c9
                  dsimp only at c0 c1 c2 c3 c4 c5 c6 c7 c8 c9
                  have hcon := hti
                  try unfold dv at hcon
                  try unfold nv at hcon
                  try unfold dcells at hcon
                  try unfold ncells at hcon
                  try unfold nsA at hcon
                  try unfold ofV at hcon
                  try unfold noV at hcon
                  try unfold noN at hcon
                  try unfold hv at hcon
                  try dsimp only at hcon
                  have HTI := Lib.hid hcon
                  clear hcon
                  have hcon := hri
                  try unfold dv at hcon
                  try unfold nv at hcon
                  try unfold dcells at hcon
                  try unfold ncells at hcon
                  try unfold nsA at hcon
                  try unfold ofV at hcon
                  try unfold noV at hcon
                  try unfold noN at hcon
                  try unfold hv at hcon
                  try dsimp only at hcon
                  have HRI := Lib.hid hcon
                  clear hcon
                  clear hti hri hf
                  go_wp2_with fail
                  refine HTI.out.mono ?_
                  rintro e w4 ⟨rfl, hx4⟩
                  clear c0 c1 c2 c3 c4 c5 c6 c7 c8 c9
                  obtain ⟨n0, n1, n2, n3, n4⟩ := RowAt.facts5 (ns := noN) ((HNl.out.ext HX3.out).ext hx4)
                  try unfold ofV at n0 n1 n2 n3 n4
                  try unfold hv at n0 n1 n2 n3 n4
                  try unfold noN at n0 n1 n2 n3 n4
                  try dsimp only at n0 n1 n2 n3 n4
                  go_wp2_with fail
                  refine (HRI.out w4 hx4).mono ?_
                  rintro e w5' ⟨rfl, hx5⟩
                  clear n0 n1 n2 n3 n4
                  by_cases hf0 : 0 ≤ f
                  · go_wp2_with fail
                    go_roundg (L.length - (j3 + 1))
                    case measure => have := Hg3.out; omega
                    case rel => exact ⟨j3 + 1, by omega, rfl, by go_num, (HX3.out.trans hx4).trans hx5⟩
                  · go_wp2_with fail
                    go_roundg (L.length - (j3 + 1))
                    case measure => have := Hg3.out; omega
                    case rel => exact ⟨j3 + 1, by omega, rfl, by go_num, (HX3.out.trans hx4).trans hx5⟩
              · go_wp2_with fail
                obtain ⟨wm, hwn⟩ : ∃ x, x = wr := ⟨_, rfl⟩
                subst hwn
                have HBm := Lib.hid (HBl.out.ext HX3.out)
                have HVm := Lib.hid (HVl.out.ext HX3.out)
                have HNm := Lib.hid (HNl.out.ext HX3.out)
                have HXm := Lib.hid (HXl.out.trans HX3.out)
                have HALm := Lib.hid (HALL.out.ext (HXi.out.trans HX3.out))
                have HXk := Lib.hid ((HX5.out.trans HXi.out).trans HX3.out)
                clear HBl HVl HNl HNVl HXl HX3 HXi HBBr HVBr HNBr HNVr HX5 HALL HXr HBr HNA
                go_loopg [19, 20, 96] N.length (fun g s19 s20 i wi => ∃ j : Nat, j ≤ N.length ∧ g = N.length - j ∧ i = .int .i64 j ∧ Ext wm wi)
                case atStart => exact ⟨0, Nat.zero_le _, rfl, rfl, Ext.refl _⟩
                case round =>
                  obtain ⟨j4, hj4, hg4, rfl, hx4⟩ := hrel
                  have Hg4 := Lib.hid hg4
                  have HX4 := Lib.hid hx4
                  clear hg4 hx4
                  by_cases hl4 : j4 < N.length
                  · obtain ⟨b4, o4, rfl, hc4⟩ := (H2.out.ext (HXm.out.trans HX4.out)).atD hl4
                    by_cases h6 : j4 = 6
                    · subst h6
                      go_wp2_with fail
                      go_roundg ((6 - ((k : Int) + 1)).toNat)
                      case measure => have := Hg.out; omega
                      case rel => exact ⟨(k : Int) + 1, by omega, by omega, rfl, by go_num, HXk.out.trans HX4.out⟩
                    · have hne : ((j4 : Int) == 6) = false := by simp; omega
                      generalize N.getD j4 0 = q at hc4
                      have hval := tellName false (hv B) (cutD D) wr (HVm.out.ext HX4.out) HSZ.out (iff_of_false (by decide) HRK.out) (k : Int) q
                      rw [wantN_no] at hval
                      try have hk55 : 5 ≤ kind := by (have := of_decide_eq_false hkd; omega)
                      obtain ⟨c0, c1, c2, c3, c4, c5, c6, c7, c8, c9⟩ := RowAt.facts10 (vs := hv B) ((HBm.out.ext HX4.out))
                      unfold hv at c0 c1 c2 c3 c4 c5 c6 c7 c8 c9
                      dsimp only at c0 c1 c2 c3 c4 c5 c6 c7 c8 c9
                      have hcon := hval
                      try unfold dv at hcon
                      try unfold nv at hcon
                      try unfold dcells at hcon
                      try unfold ncells at hcon
                      try unfold nsA at hcon
                      try unfold ofV at hcon
                      try unfold noV at hcon
                      try unfold noN at hcon
                      try unfold hv at hcon
                      try dsimp only at hcon
                      have HTN := Lib.hid hcon
                      clear hcon
                      clear hval
                      go_wp2_with fail
                      refine HTN.out.mono ?_
                      rintro e wz ⟨rfl, hxz⟩
                      clear c0 c1 c2 c3 c4 c5 c6 c7 c8 c9
                      go_wp2_with fail
                      go_roundg (N.length - (j4 + 1))
                      case measure => have := Hg4.out; omega
                      case rel => exact ⟨j4 + 1, by omega, rfl, by go_num, HX4.out.trans hxz⟩
                  · go_wp2_with fail
                    go_roundg ((6 - ((k : Int) + 1)).toNat)
                    case measure => have := Hg.out; omega
                    case rel => exact ⟨(k : Int) + 1, by omega, by omega, rfl, by go_num, HXk.out.trans HX4.out⟩
      · have HALL : Hid (Strs wr (.slice none 0 0) (allN (seenN false (cutD D)) kind)) := Lib.hid (by
          unfold allN
          rw [if_neg hkr]
          exact Sl.nil _)
        have hkk : kind < 0 ∨ (0 ≤ kind ∧ decide (kind < 5) = false) := by
          by_cases h : kind < 0
          · exact .inl h
          · exact .inr ⟨by omega, decide_eq_false (by omega)⟩
        clear hkr
        rcases hkk with hkk | ⟨hkk, hkd⟩
        · obtain ⟨c0, c1, c2, c3, c4, c5, c6, c7, c8, c9⟩ := RowAt.facts10 (vs := hv B) (HBBr.out)
          unfold hv at c0 c1 c2 c3 c4 c5 c6 c7 c8 c9
          dsimp only at c0 c1 c2 c3 c4 c5 c6 c7 c8 c9
          have hcon := tellNames false (hv B) (cutD D) wr HVBr.out HSZ.out (iff_of_false (by decide) HRK.out) kind
          try unfold dv at hcon
          try unfold nv at hcon
          try unfold dcells at hcon
          try unfold ncells at hcon
          try unfold nsA at hcon
          try unfold ofV at hcon
          try unfold noV at hcon
          try unfold noN at hcon
          try unfold hv at hcon
          try dsimp only at hcon
          have HNM := Lib.hid hcon
          clear hcon
          obtain ⟨all, hall⟩ : ∃ x, allN (seenN false (cutD D)) kind = x := ⟨_, rfl⟩
          rw [hall] at HALL HNM
          have HAE := Lib.hid hall
          clear hall
          go_wp2_with fail
          refine HNM.out.mono ?_
          rintro e w6 ⟨u6, rfl, hu6, hx6⟩
          clear c0 c1 c2 c3 c4 c5 c6 c7 c8 c9
          obtain ⟨au6, cu6, rfl⟩ := own_sl hu6
          have HEQ := Lib.hid (ext_of_drew (equalS_yes _ _ _ _ w6 (Sl.of_own hu6) (HALL.out.ext hx6) rfl))
          have HU6 := Lib.hid hu6
          have HX6 := Lib.hid hx6
          clear HNM hu6 hx6
          go_wp2_with fail
          refine HEQ.out.mono ?_
          rintro e w7 ⟨rfl, hx7⟩
          have HU7 := Lib.hid (own_ext HU6.out hx7)
          have HX7 := Lib.hid (HX6.out.trans hx7)
          have hn7 : all.length ≤ 9223372036854775807 := by obtain ⟨_, _, e, h1, h2⟩ := Sl.shape (Sl.of_own HU6.out); simp only [Value.slice.injEq] at e; omega
          have HOR := Lib.hid (fun h : 0 < all.length => owned_row HU7.out h)
          obtain ⟨na, hna⟩ : ∃ x, all.length = x := ⟨_, rfl⟩
          have HNA := Lib.hid hna
          rw [hna] at hn7 HOR ⊢
          clear hna
          clear hx7 HEQ HU6 HX6
          go_wp2_with fail
          obtain ⟨wk, hwn⟩ : ∃ x, x = wr := ⟨_, rfl⟩
          subst hwn
          go_loopg [13, 56] na (fun g s13 i wi => ∃ j : Nat, j ≤ na ∧ g = na - j ∧ i = .int .i64 j ∧ Shp w7 wi ∧ Ext wk wi)
          case atStart => exact ⟨0, Nat.zero_le _, rfl, rfl, Shp.refl _, HX7.out⟩
          case round =>
            obtain ⟨j, hj, hg2, rfl, hsh, hxi⟩ := hrel
            have Hg2 := Lib.hid hg2
            clear hg2
            by_cases hlj : j < na
            · obtain ⟨gr, ys, rfl, hgB, hrow, hny⟩ := HOR.out (by omega)
              obtain ⟨ys', hr1, hr2⟩ := hsh gr _ ys hrow
              have hcell := hr1.cell (i := j) (v := ys'[j]'(by omega)) (List.getElem?_eq_getElem _)
              have hfro := hr1.frozen j
              have HF := Lib.hid (⟨hsh.set gr j (.string ⟨#[]⟩), hxi.setCell (p := ⟨gr, j, none⟩) hgB (.string ⟨#[]⟩)⟩ : Shp w7 (wr.setCell ⟨gr, j, none⟩ (.string ⟨#[]⟩)) ∧ Ext wk (wr.setCell ⟨gr, j, none⟩ (.string ⟨#[]⟩)))
              clear hrow hr1 hsh hxi
              go_wp2_with fail
              go_roundg (na - (j + 1))
              case measure => have := Hg2.out; omega
              case rel => exact ⟨j + 1, by omega, rfl, by go_num, HF.out⟩
            · have HXi := Lib.hid hxi
              clear hsh hxi HOR HU7 HX7
              go_wp2_with fail
              obtain ⟨wl, hwn⟩ : ∃ x, x = wr := ⟨_, rfl⟩
              subst hwn
              have HBl := Lib.hid (HBBr.out.ext HXi.out)
              have HVl := Lib.hid (HVBr.out.ext HXi.out)
              have HNl := Lib.hid (HNBr.out.ext HXi.out)
              have HNVl := Lib.hid (NamV.ext HNVr.out HXi.out)
              have HXl := Lib.hid (HXr.out.trans HXi.out)
              go_loopg [14, 15, 65] L.length (fun g s14 s15 i wi => ∃ j : Nat, j ≤ L.length ∧ g = L.length - j ∧ i = .int .i64 j ∧ Ext wl wi)
              case atStart => exact ⟨0, Nat.zero_le _, rfl, rfl, Ext.refl _⟩
              case round =>
                obtain ⟨j3, hj3, hg3, rfl, hx3⟩ := hrel
                have Hg3 := Lib.hid hg3
                have HX3 := Lib.hid hx3
                clear hg3 hx3
                by_cases hl3 : j3 < L.length
                · obtain ⟨b3, o3, rfl, hc3⟩ := (H1.out.ext (HXl.out.trans HX3.out)).at_ hl3
                  by_cases h6 : j3 = 6
                  · have he6 : ((j3 : Int) == 6) = true := by simp [h6]
                    clear h6
                    go_wp2_with fail
                    obtain ⟨wm, hwn⟩ : ∃ x, x = wr := ⟨_, rfl⟩
                    subst hwn
                    have HBm := Lib.hid (HBl.out.ext HX3.out)
                    have HVm := Lib.hid (HVl.out.ext HX3.out)
                    have HNm := Lib.hid (HNl.out.ext HX3.out)
                    have HXm := Lib.hid (HXl.out.trans HX3.out)
                    have HALm := Lib.hid (HALL.out.ext (HXi.out.trans HX3.out))
                    have HXk := Lib.hid ((HX5.out.trans HXi.out).trans HX3.out)
                    clear HBl HVl HNl HNVl HXl HX3 HXi HBBr HVBr HNBr HNVr HX5 HALL HXr HBr HNA
                    go_loopg [19, 20, 96] N.length (fun g s19 s20 i wi => ∃ j : Nat, j ≤ N.length ∧ g = N.length - j ∧ i = .int .i64 j ∧ Ext wm wi)
                    case atStart => exact ⟨0, Nat.zero_le _, rfl, rfl, Ext.refl _⟩
                    case round =>
                      obtain ⟨j4, hj4, hg4, rfl, hx4⟩ := hrel
                      have Hg4 := Lib.hid hg4
                      have HX4 := Lib.hid hx4
                      clear hg4 hx4
                      by_cases hl4 : j4 < N.length
                      · obtain ⟨b4, o4, rfl, hc4⟩ := (H2.out.ext (HXm.out.trans HX4.out)).atD hl4
                        by_cases h6 : j4 = 6
                        · subst h6
                          go_wp2_with fail
                          go_roundg ((6 - (kind + 1)).toNat)
                          case measure => have := Hg.out; omega
                          case rel => exact ⟨kind + 1, by omega, by omega, rfl, by go_num, HXk.out.trans HX4.out⟩
                        · have hne : ((j4 : Int) == 6) = false := by simp; omega
                          generalize N.getD j4 0 = q at hc4
                          have hval := tellName false (hv B) (cutD D) wr (HVm.out.ext HX4.out) HSZ.out (iff_of_false (by decide) HRK.out) kind q
                          rw [wantN_no] at hval
                          try have hk55 : 5 ≤ kind := by (have := of_decide_eq_false hkd; omega)
                          obtain ⟨c0, c1, c2, c3, c4, c5, c6, c7, c8, c9⟩ := RowAt.facts10 (vs := hv B) ((HBm.out.ext HX4.out))
                          unfold hv at c0 c1 c2 c3 c4 c5 c6 c7 c8 c9
                          dsimp only at c0 c1 c2 c3 c4 c5 c6 c7 c8 c9
                          have hcon := hval
                          try unfold dv at hcon
                          try unfold nv at hcon
                          try unfold dcells at hcon
                          try unfold ncells at hcon
                          try unfold nsA at hcon
                          try unfold ofV at hcon
                          try unfold noV at hcon
                          try unfold noN at hcon
                          try unfold hv at hcon
                          try dsimp only at hcon
                          have HTN := Lib.hid hcon
                          clear hcon
                          clear hval
                          go_wp2_with fail
                          refine HTN.out.mono ?_
                          rintro e wz ⟨rfl, hxz⟩
                          clear c0 c1 c2 c3 c4 c5 c6 c7 c8 c9
                          go_wp2_with fail
                          go_roundg (N.length - (j4 + 1))
                          case measure => have := Hg4.out; omega
                          case rel => exact ⟨j4 + 1, by omega, rfl, by go_num, HX4.out.trans hxz⟩
                      · go_wp2_with fail
                        go_roundg ((6 - (kind + 1)).toNat)
                        case measure => have := Hg.out; omega
                        case rel => exact ⟨kind + 1, by omega, by omega, rfl, by go_num, HXk.out.trans HX4.out⟩
                  · have hne : ((j3 : Int) == 6) = false := by simp; omega
                    have hs3 := HLS.out _ (List.getElem_mem hl3)
                    generalize L[j3] = s at *
                    obtain ⟨f, hf⟩ : ∃ f, idN (seenN false (cutD D)) kind s = f := ⟨_, rfl⟩
                    have hti := tellId false (hv B) (cutD D) wr (HVl.out.ext HX3.out) HSZ.out (iff_of_false (by decide) HRK.out) kind s hs3
                    rw [hf] at hti
                    unfold idRes at hti
                    have hri := fun w' (hx : Ext wr w') => refId_any (noN) (seenN false (cutD D)) kind s w' (NamV.ext HNVl.out (HX3.out.trans hx))
                    rw [hf] at hri
                    obtain ⟨c0, c1, c2, c3, c4, c5, c6, c7, c8, c9⟩ := RowAt.facts10 (vs := hv B) ((HBl.out.ext HX3.out))
                    unfold hv at c0 c1 c2 c3 c4 c5 c6 c7 c8 c9
                    dsimp only at c0 c1 c2 c3 c4 c5 c6 c7 c8 c9
                    have hcon := hti
                    try unfold dv at hcon
                    try unfold nv at hcon
                    try unfold dcells at hcon
                    try unfold ncells at hcon
                    try unfold nsA at hcon
                    try unfold ofV at hcon
                    try unfold noV at hcon
                    try unfold noN at hcon
                    try unfold hv at hcon
                    try dsimp only at hcon
                    have HTI := Lib.hid hcon
                    clear hcon
                    have hcon := hri
                    try unfold dv at hcon
                    try unfold nv at hcon
                    try unfold dcells at hcon
                    try unfold ncells at hcon
                    try unfold nsA at hcon
                    try unfold ofV at hcon
                    try unfold noV at hcon
                    try unfold noN at hcon
                    try unfold hv at hcon
                    try dsimp only at hcon
                    have HRI := Lib.hid hcon
                    clear hcon
                    clear hti hri hf
                    go_wp2_with fail
                    refine HTI.out.mono ?_
                    rintro e w4 ⟨rfl, hx4⟩
                    clear c0 c1 c2 c3 c4 c5 c6 c7 c8 c9
                    obtain ⟨n0, n1, n2, n3, n4⟩ := RowAt.facts5 (ns := noN) ((HNl.out.ext HX3.out).ext hx4)
                    try unfold ofV at n0 n1 n2 n3 n4
                    try unfold hv at n0 n1 n2 n3 n4
                    try unfold noN at n0 n1 n2 n3 n4
                    try dsimp only at n0 n1 n2 n3 n4
                    go_wp2_with fail
                    refine (HRI.out w4 hx4).mono ?_
                    rintro e w5' ⟨rfl, hx5⟩
                    clear n0 n1 n2 n3 n4
                    by_cases hf0 : 0 ≤ f
                    · go_wp2_with fail
                      go_roundg (L.length - (j3 + 1))
                      case measure => have := Hg3.out; omega
                      case rel => exact ⟨j3 + 1, by omega, rfl, by go_num, (HX3.out.trans hx4).trans hx5⟩
                    · go_wp2_with fail
                      go_roundg (L.length - (j3 + 1))
                      case measure => have := Hg3.out; omega
                      case rel => exact ⟨j3 + 1, by omega, rfl, by go_num, (HX3.out.trans hx4).trans hx5⟩
                · go_wp2_with fail
                  obtain ⟨wm, hwn⟩ : ∃ x, x = wr := ⟨_, rfl⟩
                  subst hwn
                  have HBm := Lib.hid (HBl.out.ext HX3.out)
                  have HVm := Lib.hid (HVl.out.ext HX3.out)
                  have HNm := Lib.hid (HNl.out.ext HX3.out)
                  have HXm := Lib.hid (HXl.out.trans HX3.out)
                  have HALm := Lib.hid (HALL.out.ext (HXi.out.trans HX3.out))
                  have HXk := Lib.hid ((HX5.out.trans HXi.out).trans HX3.out)
                  clear HBl HVl HNl HNVl HXl HX3 HXi HBBr HVBr HNBr HNVr HX5 HALL HXr HBr HNA
                  go_loopg [19, 20, 96] N.length (fun g s19 s20 i wi => ∃ j : Nat, j ≤ N.length ∧ g = N.length - j ∧ i = .int .i64 j ∧ Ext wm wi)
                  case atStart => exact ⟨0, Nat.zero_le _, rfl, rfl, Ext.refl _⟩
                  case round =>
                    obtain ⟨j4, hj4, hg4, rfl, hx4⟩ := hrel
                    have Hg4 := Lib.hid hg4
                    have HX4 := Lib.hid hx4
                    clear hg4 hx4
                    by_cases hl4 : j4 < N.length
                    · obtain ⟨b4, o4, rfl, hc4⟩ := (H2.out.ext (HXm.out.trans HX4.out)).atD hl4
                      by_cases h6 : j4 = 6
                      · subst h6
                        go_wp2_with fail
                        go_roundg ((6 - (kind + 1)).toNat)
                        case measure => have := Hg.out; omega
                        case rel => exact ⟨kind + 1, by omega, by omega, rfl, by go_num, HXk.out.trans HX4.out⟩
                      · have hne : ((j4 : Int) == 6) = false := by simp; omega
                        generalize N.getD j4 0 = q at hc4
                        have hval := tellName false (hv B) (cutD D) wr (HVm.out.ext HX4.out) HSZ.out (iff_of_false (by decide) HRK.out) kind q
                        rw [wantN_no] at hval
                        try have hk55 : 5 ≤ kind := by (have := of_decide_eq_false hkd; omega)
                        obtain ⟨c0, c1, c2, c3, c4, c5, c6, c7, c8, c9⟩ := RowAt.facts10 (vs := hv B) ((HBm.out.ext HX4.out))
                        unfold hv at c0 c1 c2 c3 c4 c5 c6 c7 c8 c9
                        dsimp only at c0 c1 c2 c3 c4 c5 c6 c7 c8 c9
                        have hcon := hval
                        try unfold dv at hcon
                        try unfold nv at hcon
                        try unfold dcells at hcon
                        try unfold ncells at hcon
                        try unfold nsA at hcon
                        try unfold ofV at hcon
                        try unfold noV at hcon
                        try unfold noN at hcon
                        try unfold hv at hcon
                        try dsimp only at hcon
                        have HTN := Lib.hid hcon
                        clear hcon
                        clear hval
                        go_wp2_with fail
                        refine HTN.out.mono ?_
                        rintro e wz ⟨rfl, hxz⟩
                        clear c0 c1 c2 c3 c4 c5 c6 c7 c8 c9
                        go_wp2_with fail
                        go_roundg (N.length - (j4 + 1))
                        case measure => have := Hg4.out; omega
                        case rel => exact ⟨j4 + 1, by omega, rfl, by go_num, HX4.out.trans hxz⟩
                    · go_wp2_with fail
                      go_roundg ((6 - (kind + 1)).toNat)
                      case measure => have := Hg.out; omega
                      case rel => exact ⟨kind + 1, by omega, by omega, rfl, by go_num, HXk.out.trans HX4.out⟩
        · obtain ⟨c0, c1, c2, c3, c4, c5, c6, c7, c8, c9⟩ := RowAt.facts10 (vs := hv B) (HBBr.out)
          unfold hv at c0 c1 c2 c3 c4 c5 c6 c7 c8 c9
          dsimp only at c0 c1 c2 c3 c4 c5 c6 c7 c8 c9
          have hcon := tellNames false (hv B) (cutD D) wr HVBr.out HSZ.out (iff_of_false (by decide) HRK.out) kind
          try unfold dv at hcon
          try unfold nv at hcon
          try unfold dcells at hcon
          try unfold ncells at hcon
          try unfold nsA at hcon
          try unfold ofV at hcon
          try unfold noV at hcon
          try unfold noN at hcon
          try unfold hv at hcon
          try dsimp only at hcon
          have HNM := Lib.hid hcon
          clear hcon
          obtain ⟨all, hall⟩ : ∃ x, allN (seenN false (cutD D)) kind = x := ⟨_, rfl⟩
          rw [hall] at HALL HNM
          have HAE := Lib.hid hall
          clear hall
          go_wp2_with fail
          refine HNM.out.mono ?_
          rintro e w6 ⟨u6, rfl, hu6, hx6⟩
          clear c0 c1 c2 c3 c4 c5 c6 c7 c8 c9
          obtain ⟨au6, cu6, rfl⟩ := own_sl hu6
          have HEQ := Lib.hid (ext_of_drew (equalS_yes _ _ _ _ w6 (Sl.of_own hu6) (HALL.out.ext hx6) rfl))
          have HU6 := Lib.hid hu6
          have HX6 := Lib.hid hx6
          clear HNM hu6 hx6
          go_wp2_with fail
          refine HEQ.out.mono ?_
          rintro e w7 ⟨rfl, hx7⟩
          have HU7 := Lib.hid (own_ext HU6.out hx7)
          have HX7 := Lib.hid (HX6.out.trans hx7)
          have hn7 : all.length ≤ 9223372036854775807 := by obtain ⟨_, _, e, h1, h2⟩ := Sl.shape (Sl.of_own HU6.out); simp only [Value.slice.injEq] at e; omega
          have HOR := Lib.hid (fun h : 0 < all.length => owned_row HU7.out h)
          obtain ⟨na, hna⟩ : ∃ x, all.length = x := ⟨_, rfl⟩
          have HNA := Lib.hid hna
          rw [hna] at hn7 HOR ⊢
          clear hna
          clear hx7 HEQ HU6 HX6
          go_wp2_with fail
          obtain ⟨wk, hwn⟩ : ∃ x, x = wr := ⟨_, rfl⟩
          subst hwn
          go_loopg [13, 56] na (fun g s13 i wi => ∃ j : Nat, j ≤ na ∧ g = na - j ∧ i = .int .i64 j ∧ Shp w7 wi ∧ Ext wk wi)
          case atStart => exact ⟨0, Nat.zero_le _, rfl, rfl, Shp.refl _, HX7.out⟩
          case round =>
            obtain ⟨j, hj, hg2, rfl, hsh, hxi⟩ := hrel
            have Hg2 := Lib.hid hg2
            clear hg2
            by_cases hlj : j < na
            · obtain ⟨gr, ys, rfl, hgB, hrow, hny⟩ := HOR.out (by omega)
              obtain ⟨ys', hr1, hr2⟩ := hsh gr _ ys hrow
              have hcell := hr1.cell (i := j) (v := ys'[j]'(by omega)) (List.getElem?_eq_getElem _)
              have hfro := hr1.frozen j
              have HF := Lib.hid (⟨hsh.set gr j (.string ⟨#[]⟩), hxi.setCell (p := ⟨gr, j, none⟩) hgB (.string ⟨#[]⟩)⟩ : Shp w7 (wr.setCell ⟨gr, j, none⟩ (.string ⟨#[]⟩)) ∧ Ext wk (wr.setCell ⟨gr, j, none⟩ (.string ⟨#[]⟩)))
              clear hrow hr1 hsh hxi
              go_wp2_with fail
              go_roundg (na - (j + 1))
              case measure => have := Hg2.out; omega
              case rel => exact ⟨j + 1, by omega, rfl, by go_num, HF.out⟩
            · have HXi := Lib.hid hxi
              clear hsh hxi HOR HU7 HX7
              go_wp2_with fail
              obtain ⟨wl, hwn⟩ : ∃ x, x = wr := ⟨_, rfl⟩
              subst hwn
              have HBl := Lib.hid (HBBr.out.ext HXi.out)
              have HVl := Lib.hid (HVBr.out.ext HXi.out)
              have HNl := Lib.hid (HNBr.out.ext HXi.out)
              have HNVl := Lib.hid (NamV.ext HNVr.out HXi.out)
              have HXl := Lib.hid (HXr.out.trans HXi.out)
              go_loopg [14, 15, 65] L.length (fun g s14 s15 i wi => ∃ j : Nat, j ≤ L.length ∧ g = L.length - j ∧ i = .int .i64 j ∧ Ext wl wi)
              case atStart => exact ⟨0, Nat.zero_le _, rfl, rfl, Ext.refl _⟩
              case round =>
                obtain ⟨j3, hj3, hg3, rfl, hx3⟩ := hrel
                have Hg3 := Lib.hid hg3
                have HX3 := Lib.hid hx3
                clear hg3 hx3
                by_cases hl3 : j3 < L.length
                · obtain ⟨b3, o3, rfl, hc3⟩ := (H1.out.ext (HXl.out.trans HX3.out)).at_ hl3
                  by_cases h6 : j3 = 6
                  · have he6 : ((j3 : Int) == 6) = true := by simp [h6]
                    clear h6
                    go_wp2_with fail
                    obtain ⟨wm, hwn⟩ : ∃ x, x = wr := ⟨_, rfl⟩
                    subst hwn
                    have HBm := Lib.hid (HBl.out.ext HX3.out)
                    have HVm := Lib.hid (HVl.out.ext HX3.out)
                    have HNm := Lib.hid (HNl.out.ext HX3.out)
                    have HXm := Lib.hid (HXl.out.trans HX3.out)
                    have HALm := Lib.hid (HALL.out.ext (HXi.out.trans HX3.out))
                    have HXk := Lib.hid ((HX5.out.trans HXi.out).trans HX3.out)
                    clear HBl HVl HNl HNVl HXl HX3 HXi HBBr HVBr HNBr HNVr HX5 HALL HXr HBr HNA
                    go_loopg [19, 20, 96] N.length (fun g s19 s20 i wi => ∃ j : Nat, j ≤ N.length ∧ g = N.length - j ∧ i = .int .i64 j ∧ Ext wm wi)
                    case atStart => exact ⟨0, Nat.zero_le _, rfl, rfl, Ext.refl _⟩
                    case round =>
                      obtain ⟨j4, hj4, hg4, rfl, hx4⟩ := hrel
                      have Hg4 := Lib.hid hg4
                      have HX4 := Lib.hid hx4
                      clear hg4 hx4
                      by_cases hl4 : j4 < N.length
                      · obtain ⟨b4, o4, rfl, hc4⟩ := (H2.out.ext (HXm.out.trans HX4.out)).atD hl4
                        by_cases h6 : j4 = 6
                        · subst h6
                          go_wp2_with fail
                          go_roundg ((6 - (kind + 1)).toNat)
                          case measure => have := Hg.out; omega
                          case rel => exact ⟨kind + 1, by omega, by omega, rfl, by go_num, HXk.out.trans HX4.out⟩
                        · have hne : ((j4 : Int) == 6) = false := by simp; omega
                          generalize N.getD j4 0 = q at hc4
                          have hval := tellName false (hv B) (cutD D) wr (HVm.out.ext HX4.out) HSZ.out (iff_of_false (by decide) HRK.out) kind q
                          rw [wantN_no] at hval
                          try have hk55 : 5 ≤ kind := by (have := of_decide_eq_false hkd; omega)
                          obtain ⟨c0, c1, c2, c3, c4, c5, c6, c7, c8, c9⟩ := RowAt.facts10 (vs := hv B) ((HBm.out.ext HX4.out))
                          unfold hv at c0 c1 c2 c3 c4 c5 c6 c7 c8 c9
                          dsimp only at c0 c1 c2 c3 c4 c5 c6 c7 c8 c9
                          have hcon := hval
                          try unfold dv at hcon
                          try unfold nv at hcon
                          try unfold dcells at hcon
                          try unfold ncells at hcon
                          try unfold nsA at hcon
                          try unfold ofV at hcon
                          try unfold noV at hcon
                          try unfold noN at hcon
                          try unfold hv at hcon
                          try dsimp only at hcon
                          have HTN := Lib.hid hcon
                          clear hcon
                          clear hval
                          go_wp2_with fail
                          refine HTN.out.mono ?_
                          rintro e wz ⟨rfl, hxz⟩
                          clear c0 c1 c2 c3 c4 c5 c6 c7 c8 c9
                          go_wp2_with fail
                          go_roundg (N.length - (j4 + 1))
                          case measure => have := Hg4.out; omega
                          case rel => exact ⟨j4 + 1, by omega, rfl, by go_num, HX4.out.trans hxz⟩
                      · go_wp2_with fail
                        go_roundg ((6 - (kind + 1)).toNat)
                        case measure => have := Hg.out; omega
                        case rel => exact ⟨kind + 1, by omega, by omega, rfl, by go_num, HXk.out.trans HX4.out⟩
                  · have hne : ((j3 : Int) == 6) = false := by simp; omega
                    have hs3 := HLS.out _ (List.getElem_mem hl3)
                    generalize L[j3] = s at *
                    obtain ⟨f, hf⟩ : ∃ f, idN (seenN false (cutD D)) kind s = f := ⟨_, rfl⟩
                    have hti := tellId false (hv B) (cutD D) wr (HVl.out.ext HX3.out) HSZ.out (iff_of_false (by decide) HRK.out) kind s hs3
                    rw [hf] at hti
                    unfold idRes at hti
                    have hri := fun w' (hx : Ext wr w') => refId_any (noN) (seenN false (cutD D)) kind s w' (NamV.ext HNVl.out (HX3.out.trans hx))
                    rw [hf] at hri
                    obtain ⟨c0, c1, c2, c3, c4, c5, c6, c7, c8, c9⟩ := RowAt.facts10 (vs := hv B) ((HBl.out.ext HX3.out))
                    unfold hv at c0 c1 c2 c3 c4 c5 c6 c7 c8 c9
                    dsimp only at c0 c1 c2 c3 c4 c5 c6 c7 c8 c9
                    have hcon := hti
                    try unfold dv at hcon
                    try unfold nv at hcon
                    try unfold dcells at hcon
                    try unfold ncells at hcon
                    try unfold nsA at hcon
                    try unfold ofV at hcon
                    try unfold noV at hcon
                    try unfold noN at hcon
                    try unfold hv at hcon
                    try dsimp only at hcon
                    have HTI := Lib.hid hcon
                    clear hcon
                    have hcon := hri
                    try unfold dv at hcon
                    try unfold nv at hcon
                    try unfold dcells at hcon
                    try unfold ncells at hcon
                    try unfold nsA at hcon
                    try unfold ofV at hcon
                    try unfold noV at hcon
                    try unfold noN at hcon
                    try unfold hv at hcon
                    try dsimp only at hcon
                    have HRI := Lib.hid hcon
                    clear hcon
                    clear hti hri hf
                    go_wp2_with fail
                    refine HTI.out.mono ?_
                    rintro e w4 ⟨rfl, hx4⟩
                    clear c0 c1 c2 c3 c4 c5 c6 c7 c8 c9
                    obtain ⟨n0, n1, n2, n3, n4⟩ := RowAt.facts5 (ns := noN) ((HNl.out.ext HX3.out).ext hx4)
                    try unfold ofV at n0 n1 n2 n3 n4
                    try unfold hv at n0 n1 n2 n3 n4
                    try unfold noN at n0 n1 n2 n3 n4
                    try dsimp only at n0 n1 n2 n3 n4
                    go_wp2_with fail
                    refine (HRI.out w4 hx4).mono ?_
                    rintro e w5' ⟨rfl, hx5⟩
                    clear n0 n1 n2 n3 n4
                    by_cases hf0 : 0 ≤ f
                    · go_wp2_with fail
                      go_roundg (L.length - (j3 + 1))
                      case measure => have := Hg3.out; omega
                      case rel => exact ⟨j3 + 1, by omega, rfl, by go_num, (HX3.out.trans hx4).trans hx5⟩
                    · go_wp2_with fail
                      go_roundg (L.length - (j3 + 1))
                      case measure => have := Hg3.out; omega
                      case rel => exact ⟨j3 + 1, by omega, rfl, by go_num, (HX3.out.trans hx4).trans hx5⟩
                · go_wp2_with fail
                  obtain ⟨wm, hwn⟩ : ∃ x, x = wr := ⟨_, rfl⟩
                  subst hwn
                  have HBm := Lib.hid (HBl.out.ext HX3.out)
                  have HVm := Lib.hid (HVl.out.ext HX3.out)
                  have HNm := Lib.hid (HNl.out.ext HX3.out)
                  have HXm := Lib.hid (HXl.out.trans HX3.out)
                  have HALm := Lib.hid (HALL.out.ext (HXi.out.trans HX3.out))
                  have HXk := Lib.hid ((HX5.out.trans HXi.out).trans HX3.out)
                  clear HBl HVl HNl HNVl HXl HX3 HXi HBBr HVBr HNBr HNVr HX5 HALL HXr HBr HNA
                  go_loopg [19, 20, 96] N.length (fun g s19 s20 i wi => ∃ j : Nat, j ≤ N.length ∧ g = N.length - j ∧ i = .int .i64 j ∧ Ext wm wi)
                  case atStart => exact ⟨0, Nat.zero_le _, rfl, rfl, Ext.refl _⟩
                  case round =>
                    obtain ⟨j4, hj4, hg4, rfl, hx4⟩ := hrel
                    have Hg4 := Lib.hid hg4
                    have HX4 := Lib.hid hx4
                    clear hg4 hx4
                    by_cases hl4 : j4 < N.length
                    · obtain ⟨b4, o4, rfl, hc4⟩ := (H2.out.ext (HXm.out.trans HX4.out)).atD hl4
                      by_cases h6 : j4 = 6
                      · subst h6
                        go_wp2_with fail
                        go_roundg ((6 - (kind + 1)).toNat)
                        case measure => have := Hg.out; omega
                        case rel => exact ⟨kind + 1, by omega, by omega, rfl, by go_num, HXk.out.trans HX4.out⟩
                      · have hne : ((j4 : Int) == 6) = false := by simp; omega
                        generalize N.getD j4 0 = q at hc4
                        have hval := tellName false (hv B) (cutD D) wr (HVm.out.ext HX4.out) HSZ.out (iff_of_false (by decide) HRK.out) kind q
                        rw [wantN_no] at hval
                        try have hk55 : 5 ≤ kind := by (have := of_decide_eq_false hkd; omega)
                        obtain ⟨c0, c1, c2, c3, c4, c5, c6, c7, c8, c9⟩ := RowAt.facts10 (vs := hv B) ((HBm.out.ext HX4.out))
                        unfold hv at c0 c1 c2 c3 c4 c5 c6 c7 c8 c9
                        dsimp only at c0 c1 c2 c3 c4 c5 c6 c7 c8 c9
                        have hcon := hval
                        try unfold dv at hcon
                        try unfold nv at hcon
                        try unfold dcells at hcon
                        try unfold ncells at hcon
                        try unfold nsA at hcon
                        try unfold ofV at hcon
                        try unfold noV at hcon
                        try unfold noN at hcon
                        try unfold hv at hcon
                        try dsimp only at hcon
                        have HTN := Lib.hid hcon
                        clear hcon
                        clear hval
                        go_wp2_with fail
                        refine HTN.out.mono ?_
                        rintro e wz ⟨rfl, hxz⟩
                        clear c0 c1 c2 c3 c4 c5 c6 c7 c8 c9
                        go_wp2_with fail
                        go_roundg (N.length - (j4 + 1))
                        case measure => have := Hg4.out; omega
                        case rel => exact ⟨j4 + 1, by omega, rfl, by go_num, HX4.out.trans hxz⟩
                    · go_wp2_with fail
                      go_roundg ((6 - (kind + 1)).toNat)
                      case measure => have := Hg.out; omega
                      case rel => exact ⟨kind + 1, by omega, by omega, rfl, by go_num, HXk.out.trans HX4.out⟩
    · obtain rfl : kind = 6 := by omega
      go_upto_region 46 with fail
      refine wp_region_gro groT46 [0, 1, 2, 3, 4] hmo (by kernel_rfl) rfl (by kernel_rfl) (fun _ _ _ _ _ h => h) ?_
      have hdr : Ext wr wr.drew := Ext.drewN wr 1
      have HXG := Lib.hid (HXr.out.trans hdr)
      have HBG := Lib.hid (HBr.out.ext hdr)
      have HBBG := Lib.hid (HBBr.out.ext hdr)
      have HVG := Lib.hid (HVBr.out.ext hdr)
      clear hdr
      generalize wr.drew = wz at *
      obtain ⟨c0, c1, c2, c3, c4, c5, c6, c7, c8, c9⟩ := RowAt.facts10 (vs := hv B) (HBBG.out)
      unfold hv at c0 c1 c2 c3 c4 c5 c6 c7 c8 c9
      dsimp only at c0 c1 c2 c3 c4 c5 c6 c7 c8 c9
      obtain ⟨e0, e1, e2, e3, e4, e5, e6, e7, e8, e9⟩ := RowAt.facts10 (vs := hv A) (HBG.out)
      unfold hv at e0 e1 e2 e3 e4 e5 e6 e7 e8 e9
      dsimp only at e0 e1 e2 e3 e4 e5 e6 e7 e8 e9
      have hcon := lawOwn_hv A D wz (HV.out.ext HXG.out)
      try unfold dv at hcon
      try unfold nv at hcon
      try unfold dcells at hcon
      try unfold ncells at hcon
      try unfold nsA at hcon
      try unfold ofV at hcon
      try unfold noV at hcon
      try unfold noN at hcon
      try unfold hv at hcon
      try dsimp only at hcon
      have HOW2 := Lib.hid hcon
      clear hcon
      repeat (first
        | (refine groL_pure rfl rfl ?_; intro K hK; go_simp; refine hK _ ?_; clear hK K)
        | (refine groL_read rfl rfl ?_; intro K S hS hK; go_simp; refine hK _ ?_; clear hK K hS S)
        | (refine groL_read rfl rfl ?_; intro K S hS hK; go_simp; refine ⟨hS _ ?_, hK _ ?_⟩; (clear hK K hS S; intro w' hx'; have hce := ext_some hx'; go_simp); clear hK K hS S)
        | (refine groL_write rfl rfl ?_; intro K hK; go_simp; refine hK _ _ ?_; clear hK K))
      refine groL_grow rfl rfl ?_
      intro K hK
      go_simp
      (refine HOW2.out.mono ?_; rintro e wy ⟨F, rfl, howF, hxy⟩)
      go_simp
      refine hK _ _ ⟨hxy, ?_⟩
      clear hK K
      clear c0 c1 c2 c3 c4 c5 c6 c7 c8 c9
      clear e0 e1 e2 e3 e4 e5 e6 e7 e8 e9
      have hcon := lawSame_yes (hv B) (hv F) (cutD D) (cutD D) wy (HVG.out.ext hxy) howF.view (fun _ _ => rfl)
      try unfold dv at hcon
      try unfold nv at hcon
      try unfold dcells at hcon
      try unfold ncells at hcon
      try unfold nsA at hcon
      try unfold ofV at hcon
      try unfold noV at hcon
      try unfold noN at hcon
      try unfold hv at hcon
      try dsimp only at hcon
      have HSM2 := Lib.hid hcon
      clear hcon
      repeat (first
        | (refine groL_pure rfl rfl ?_; intro K hK; go_simp; refine hK _ ?_; clear hK K)
        | (refine groL_read rfl rfl ?_; intro K S hS hK; go_simp; refine hK _ ?_; clear hK K hS S)
        | (refine groL_read rfl rfl ?_; intro K S hS hK; go_simp; refine ⟨hS _ ?_, hK _ ?_⟩; (clear hK K hS S; intro w' hx'; have hce := ext_some hx'; go_simp); clear hK K hS S)
        | (refine groL_write rfl rfl ?_; intro K hK; go_simp; refine hK _ _ ?_; clear hK K))
      refine groL_grow rfl rfl ?_
      intro K hK
      go_simp
      (refine HSM2.out.mono ?_; rintro e wx ⟨rfl, hxx⟩)
      go_simp
      refine hK _ _ ⟨hxx, ?_⟩
      clear hK K
      repeat (first
        | (refine groL_pure rfl rfl ?_; intro K hK; go_simp; refine hK _ ?_; clear hK K)
        | (refine groL_read rfl rfl ?_; intro K S hS hK; go_simp; refine hK _ ?_; clear hK K hS S)
        | (refine groL_read rfl rfl ?_; intro K S hS hK; go_simp; refine ⟨hS _ ?_, hK _ ?_⟩; (clear hK K hS S; intro w' hx'; have hce := ext_some hx'; go_simp); clear hK K hS S)
        | (refine groL_write rfl rfl ?_; intro K hK; go_simp; refine hK _ _ ?_; clear hK K))
      refine groL_nil ?_
      go_wp2_with fail
      go_ret
      exact ⟨rfl, (HXG.out.trans hxy).trans hxx⟩
end Go.Proofs.Ytogoejlbdbapoaa
