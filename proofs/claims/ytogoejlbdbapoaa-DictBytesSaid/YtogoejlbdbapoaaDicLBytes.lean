/- DictBytes: the walk. -/
import Derived.Test.YtogoejlbdbapoaaDicLw
namespace Go.Proofs.Ytogoejlbdbapoaa
set_option maxRecDepth 100000
set_option maxHeartbeats 2000000
set_option linter.unusedSimpArgs false
open Go.RowKit Go.Shelf Go.Sort
attribute [local go_sem] Oper.semAt_some wide_fn wide_depth
set_option linter.unusedVariables false

theorem ints_nil (w : World) (k : IntKind) : Ints w k (.slice none 0 0) [] := Sl.nil w
def groB21 : Nat → Gro
  | 16 => .read
  | 17 => .grow
  | 25 => .read
  | 26 => .grow
  | 29 => .read
  | 30 => .grow
  | 31 => .read
  | 32 => .grow
  | _ => .pure
def groB24 : Nat → Gro
  | 0 => .read
  | 1 => .read
  | 2 => .grow
  | 3 => .grow
  | 10 => .grow
  | _ => .pure
set_option maxRecDepth 100000 in
set_option maxHeartbeats 4000000 in
theorem bytes_walk (v0 : Value) (D : Dic) (v1 : Value) (l : List Int) (v2 : Value) (N : List Int) (w : World)
    (h0 : ∃ vs, v0 = dv vs ∧ DicV w vs D ∧ ∀ i, i < 5 → ∀ s ∈ (D i).1, s.size ≤ 9223372036854775807) (h1 : Ints w .u8 v1 l) (hl : Byt l) (h2 : Ints w .i64 v2 N) (h3 : ∀ x ∈ N, -9223372036854775808 ≤ x ∧ x ≤ 9223372036854775807) :
    Calls Try.prog 5 #[v0, v1, v2] w fun e w' => e = .returned (.bool true) ∧ Ext w w' := by
  have hmo : Try.prog.follows .mixedOrders = true := by kernel_rfl
  obtain ⟨a1, cap1, rfl, hcap1, hmax1, _⟩ := h1.open_
  obtain ⟨a2, cap2, rfl, hcap2, hmax2, _⟩ := h2.open_
  have H1 := Lib.hid h1
  have H2 := Lib.hid h2
  have H3 := Lib.hid h3
  have HL := Lib.hid hl
  clear h1 h2 h3 hl
  obtain ⟨vs, rfl, hV0, hs0⟩ := h0
  obtain ⟨A, hA1, hA2⟩ := heads hV0.shape
  rw [show dv vs = dv (hv A) from by unfold dv; rw [hA2]]
  have hV : DicV w (hv A) D := fun i hi => by rw [← hA1 i hi]; exact hV0 i hi
  clear hA1 hA2 hV0
  have hbx : RowAt (w.alloc (.cells #[Value.slice (A 0).1 (A 0).2.1 (A 0).2.2.1, .slice (A 0).2.2.2.1 (A 0).2.2.2.2.1 (A 0).2.2.2.2.2, Value.slice (A 1).1 (A 1).2.1 (A 1).2.2.1, .slice (A 1).2.2.2.1 (A 1).2.2.2.2.1 (A 1).2.2.2.2.2, Value.slice (A 2).1 (A 2).2.1 (A 2).2.2.1, .slice (A 2).2.2.2.1 (A 2).2.2.2.2.1 (A 2).2.2.2.2.2, Value.slice (A 3).1 (A 3).2.1 (A 3).2.2.1, .slice (A 3).2.2.2.1 (A 3).2.2.2.2.1 (A 3).2.2.2.2.2, Value.slice (A 4).1 (A 4).2.1 (A 4).2.2.1, .slice (A 4).2.2.2.1 (A 4).2.2.2.2.1 (A 4).2.2.2.2.2] 28)) w.heap.size 28 (dcells (hv A)) := RowAt.new _ _ _
  have hx0 := Ext.alloc w (.cells #[Value.slice (A 0).1 (A 0).2.1 (A 0).2.2.1, .slice (A 0).2.2.2.1 (A 0).2.2.2.2.1 (A 0).2.2.2.2.2, Value.slice (A 1).1 (A 1).2.1 (A 1).2.2.1, .slice (A 1).2.2.2.1 (A 1).2.2.2.2.1 (A 1).2.2.2.2.2, Value.slice (A 2).1 (A 2).2.1 (A 2).2.2.1, .slice (A 2).2.2.2.1 (A 2).2.2.2.2.1 (A 2).2.2.2.2.2, Value.slice (A 3).1 (A 3).2.1 (A 3).2.2.1, .slice (A 3).2.2.2.1 (A 3).2.2.2.2.1 (A 3).2.2.2.2.2, Value.slice (A 4).1 (A 4).2.1 (A 4).2.2.1, .slice (A 4).2.2.2.1 (A 4).2.2.2.2.1 (A 4).2.2.2.2.2] 28)
  have HV := Lib.hid hV
  have HB := Lib.hid hbx
  have HX := Lib.hid hx0
  have HSZ := Lib.hid (cutD_s hs0)
  clear hV hbx hx0 hs0
  unfold dv dcells hv
  dsimp only
  go_enter Try.func5, Try.ntmps5
  go_upto_region 1 with fail
  generalize w.alloc (.cells #[Value.slice (A 0).1 (A 0).2.1 (A 0).2.2.1, .slice (A 0).2.2.2.1 (A 0).2.2.2.2.1 (A 0).2.2.2.2.2, Value.slice (A 1).1 (A 1).2.1 (A 1).2.2.1, .slice (A 1).2.2.2.1 (A 1).2.2.2.2.1 (A 1).2.2.2.2.2, Value.slice (A 2).1 (A 2).2.1 (A 2).2.2.1, .slice (A 2).2.2.2.1 (A 2).2.2.2.2.1 (A 2).2.2.2.2.2, Value.slice (A 3).1 (A 3).2.1 (A 3).2.2.1, .slice (A 3).2.2.2.1 (A 3).2.2.2.2.1 (A 3).2.2.2.2.2, Value.slice (A 4).1 (A 4).2.1 (A 4).2.2.1, .slice (A 4).2.2.2.1 (A 4).2.2.2.2.1 (A 4).2.2.2.2.2] 28) = wa at *
  go_wp2_with fail
  refine (dwakes_any _).mono ?_
  rintro e w1 ⟨rfl, hx1⟩
  replace HB := Lib.hid (HB.out.ext hx1)
  replace HX := Lib.hid (HX.out.trans hx1)
  clear hx1
  obtain ⟨c0, c1, c2, c3, c4, c5, c6, c7, c8, c9⟩ := RowAt.facts10 (vs := hv A) (HB.out)
  unfold hv at c0 c1 c2 c3 c4 c5 c6 c7 c8 c9
  dsimp only at c0 c1 c2 c3 c4 c5 c6 c7 c8 c9
  have hcon := lawOwn_hv A D w1 (HV.out.ext HX.out)
  try unfold dv at hcon
  try unfold nv at hcon
  try unfold dcells at hcon
  try unfold ncells at hcon
  try unfold nsA at hcon
  try unfold ofV at hcon
  try unfold noV at hcon
  try unfold noN at hcon
  try unfold hv at hcon
  try dsimp only at hcon
  have HOW := Lib.hid hcon
  clear hcon
  go_wp2_with fail
  refine HOW.out.mono ?_
  rintro e w2 ⟨B, rfl, hown2, hx2⟩
  clear c0 c1 c2 c3 c4 c5 c6 c7 c8 c9
  have hx3 := hx2.trans (Ext.alloc w2 (.cells #[Value.slice (B 0).1 (B 0).2.1 (B 0).2.2.1, .slice (B 0).2.2.2.1 (B 0).2.2.2.2.1 (B 0).2.2.2.2.2, Value.slice (B 1).1 (B 1).2.1 (B 1).2.2.1, .slice (B 1).2.2.2.1 (B 1).2.2.2.2.1 (B 1).2.2.2.2.2, Value.slice (B 2).1 (B 2).2.1 (B 2).2.2.1, .slice (B 2).2.2.2.1 (B 2).2.2.2.2.1 (B 2).2.2.2.2.2, Value.slice (B 3).1 (B 3).2.1 (B 3).2.2.1, .slice (B 3).2.2.2.1 (B 3).2.2.2.2.1 (B 3).2.2.2.2.2, Value.slice (B 4).1 (B 4).2.1 (B 4).2.2.1, .slice (B 4).2.2.2.1 (B 4).2.2.2.2.1 (B 4).2.2.2.2.2] 28))
  replace HB := Lib.hid (HB.out.ext hx3)
  replace HX := Lib.hid (HX.out.trans hx3)
  have HBB : Hid (RowAt (w2.alloc (.cells #[Value.slice (B 0).1 (B 0).2.1 (B 0).2.2.1, .slice (B 0).2.2.2.1 (B 0).2.2.2.2.1 (B 0).2.2.2.2.2, Value.slice (B 1).1 (B 1).2.1 (B 1).2.2.1, .slice (B 1).2.2.2.1 (B 1).2.2.2.2.1 (B 1).2.2.2.2.2, Value.slice (B 2).1 (B 2).2.1 (B 2).2.2.1, .slice (B 2).2.2.2.1 (B 2).2.2.2.2.1 (B 2).2.2.2.2.2, Value.slice (B 3).1 (B 3).2.1 (B 3).2.2.1, .slice (B 3).2.2.2.1 (B 3).2.2.2.2.1 (B 3).2.2.2.2.2, Value.slice (B 4).1 (B 4).2.1 (B 4).2.2.1, .slice (B 4).2.2.2.1 (B 4).2.2.2.2.1 (B 4).2.2.2.2.2] 28)) w2.heap.size 28 (dcells (hv B))) := Lib.hid (RowAt.new _ _ _)
  have HVB := Lib.hid (hown2.view.ext (Ext.alloc w2 (.cells #[Value.slice (B 0).1 (B 0).2.1 (B 0).2.2.1, .slice (B 0).2.2.2.1 (B 0).2.2.2.2.1 (B 0).2.2.2.2.2, Value.slice (B 1).1 (B 1).2.1 (B 1).2.2.1, .slice (B 1).2.2.2.1 (B 1).2.2.2.2.1 (B 1).2.2.2.2.2, Value.slice (B 2).1 (B 2).2.1 (B 2).2.2.1, .slice (B 2).2.2.2.1 (B 2).2.2.2.2.1 (B 2).2.2.2.2.2, Value.slice (B 3).1 (B 3).2.1 (B 3).2.2.1, .slice (B 3).2.2.2.1 (B 3).2.2.2.2.1 (B 3).2.2.2.2.2, Value.slice (B 4).1 (B 4).2.1 (B 4).2.2.1, .slice (B 4).2.2.2.1 (B 4).2.2.2.2.1 (B 4).2.2.2.2.2] 28)))
  obtain ⟨y, hy⟩ : ∃ y, w2.heap.size = y := ⟨_, rfl⟩
  clear hx3 hx2 hown2 HOW
  go_upto_region 4 with fail
  generalize w2.alloc (.cells #[Value.slice (B 0).1 (B 0).2.1 (B 0).2.2.1, .slice (B 0).2.2.2.1 (B 0).2.2.2.2.1 (B 0).2.2.2.2.2, Value.slice (B 1).1 (B 1).2.1 (B 1).2.2.1, .slice (B 1).2.2.2.1 (B 1).2.2.2.2.1 (B 1).2.2.2.2.2, Value.slice (B 2).1 (B 2).2.1 (B 2).2.2.1, .slice (B 2).2.2.2.1 (B 2).2.2.2.2.1 (B 2).2.2.2.2.2, Value.slice (B 3).1 (B 3).2.1 (B 3).2.2.1, .slice (B 3).2.2.2.1 (B 3).2.2.2.2.1 (B 3).2.2.2.2.2, Value.slice (B 4).1 (B 4).2.1 (B 4).2.2.1, .slice (B 4).2.2.2.1 (B 4).2.2.2.2.1 (B 4).2.2.2.2.2] 28) = w3 at *
  rw [hy] at *
  clear hy
  have hct : Ints w .u8 (.slice a1 l.length cap1) l := H1.out
  obtain ⟨mt, hmt⟩ : ∃ x : Int, (if (400 : Int) < (l.length : Int) then (400 : Int) else (l.length : Int)) = x := ⟨_, rfl⟩
  obtain ⟨m0, m1, m2⟩ : 0 ≤ mt ∧ mt ≤ (cap1 : Int) ∧ mt.toNat = min l.length 400 := by rw [← hmt]; split <;> omega
  have hct2 := hct.take mt.toNat (by omega)
  obtain ⟨bl, hbl⟩ : ∃ bl, l.take mt.toNat = bl := ⟨_, rfl⟩
  rw [hbl] at hct2
  have HCT := Lib.hid hct2
  have HBL : Hid (Byt bl) := Lib.hid (by rw [← hbl]; exact HL.out.take _)
  have hbll : bl.length ≤ 400 := by rw [← hbl]; simp; omega
  have HBE : Hid (bl.length = mt.toNat) := Lib.hid (by rw [← hbl]; simp; omega)
  clear hct hct2 hbl m2
  by_cases hok : DicOK (cutD D)
  · obtain ⟨c0, c1, c2, c3, c4, c5, c6, c7, c8, c9⟩ := RowAt.facts10 (vs := hv B) (HBB.out)
    unfold hv at c0 c1 c2 c3 c4 c5 c6 c7 c8 c9
    dsimp only at c0 c1 c2 c3 c4 c5 c6 c7 c8 c9
    have hcon := dbytes_yes (hv B) (cutD D) w3 HVB.out HSZ.out hok
    try unfold dv at hcon
    try unfold nv at hcon
    try unfold dcells at hcon
    try unfold ncells at hcon
    try unfold nsA at hcon
    try unfold ofV at hcon
    try unfold noV at hcon
    try unfold noN at hcon
    try unfold hv at hcon
    try dsimp only at hcon
    have HC1 := Lib.hid hcon
    clear hcon
    go_wp2_with fail
    refine HC1.out.mono ?_
    rintro e w4 ⟨u4, rfl, hu4, hx4⟩
    have hi4 := Own.ints hu4
    obtain ⟨au4, cu4, rfl⟩ := own_sl hu4
    replace HB := Lib.hid (HB.out.ext hx4)
    replace HX := Lib.hid (HX.out.trans hx4)
    replace HBB := Lib.hid (HBB.out.ext hx4)
    replace HVB := Lib.hid (HVB.out.ext hx4)
    clear c0 c1 c2 c3 c4 c5 c6 c7 c8 c9
    obtain ⟨c0, c1, c2, c3, c4, c5, c6, c7, c8, c9⟩ := RowAt.facts10 (vs := hv B) (HBB.out)
    unfold hv at c0 c1 c2 c3 c4 c5 c6 c7 c8 c9
    dsimp only at c0 c1 c2 c3 c4 c5 c6 c7 c8 c9
    have hcon := dright_yes (hv B) (cutD D) w4 HVB.out HSZ.out hok
    try unfold dv at hcon
    try unfold nv at hcon
    try unfold dcells at hcon
    try unfold ncells at hcon
    try unfold nsA at hcon
    try unfold ofV at hcon
    try unfold noV at hcon
    try unfold noN at hcon
    try unfold hv at hcon
    try dsimp only at hcon
    have HC2 := Lib.hid hcon
    clear hcon
    clear HC1 hu4 hx4
    go_wp2_with fail
    refine HC2.out.mono ?_
    rintro e w5 ⟨rfl, hx5⟩
    have HI5 := Lib.hid (hi4.ext hx5)
    replace HB := Lib.hid (HB.out.ext hx5)
    replace HX := Lib.hid (HX.out.trans hx5)
    replace HBB := Lib.hid (HBB.out.ext hx5)
    replace HVB := Lib.hid (HVB.out.ext hx5)
    clear c0 c1 c2 c3 c4 c5 c6 c7 c8 c9
    obtain ⟨c0, c1, c2, c3, c4, c5, c6, c7, c8, c9⟩ := RowAt.facts10 (vs := hv B) (HBB.out)
    unfold hv at c0 c1 c2 c3 c4 c5 c6 c7 c8 c9
    dsimp only at c0 c1 c2 c3 c4 c5 c6 c7 c8 c9
    have hcon := of_hv B w5
    try unfold dv at hcon
    try unfold nv at hcon
    try unfold dcells at hcon
    try unfold ncells at hcon
    try unfold nsA at hcon
    try unfold ofV at hcon
    try unfold noV at hcon
    try unfold noN at hcon
    try unfold hv at hcon
    try dsimp only at hcon
    have HC3 := Lib.hid hcon
    clear hcon
    clear hi4 hx5 HC2
    go_wp2_with fail
    refine HC3.out.mono ?_
    rintro e w6 ⟨rfl, hx6⟩
    replace HB := Lib.hid (HB.out.ext hx6)
    replace HX := Lib.hid (HX.out.trans hx6)
    replace HBB := Lib.hid (HBB.out.ext hx6)
    replace HVB := Lib.hid (HVB.out.ext hx6)
    clear c0 c1 c2 c3 c4 c5 c6 c7 c8 c9
    have HI6 := Lib.hid (HI5.out.ext hx6)
    have hcon := refBytes_any (ofV (hv B)) (ofD (cutD D)) w6 (DicV.names HVB.out) hok.small
    try unfold dv at hcon
    try unfold nv at hcon
    try unfold dcells at hcon
    try unfold ncells at hcon
    try unfold nsA at hcon
    try unfold ofV at hcon
    try unfold noV at hcon
    try unfold noN at hcon
    try unfold hv at hcon
    try dsimp only at hcon
    have HC4 := Lib.hid hcon
    clear hcon
    clear HC3 hx6 HI5
    go_wp2_with fail
    refine HC4.out.mono ?_
    rintro e w7 ⟨u7, rfl, hu7, hx7⟩
    replace HB := Lib.hid (HB.out.ext hx7)
    replace HX := Lib.hid (HX.out.trans hx7)
    replace HBB := Lib.hid (HBB.out.ext hx7)
    replace HVB := Lib.hid (HVB.out.ext hx7)
    have hi7 := Own.ints hu7
    obtain ⟨au7, cu7, rfl⟩ := own_sl hu7
    have HQ := Lib.hid (ext_of_drew (equalB_yes _ _ _ _ w7 (HI6.out.ext hx7) hi7 rfl))
    clear HC4 hx7 HI6 hi7 hu7
    go_wp2_with fail
    refine HQ.out.mono ?_
    rintro e w8 ⟨rfl, hx8⟩
    replace HB := Lib.hid (HB.out.ext hx8)
    replace HX := Lib.hid (HX.out.trans hx8)
    replace HBB := Lib.hid (HBB.out.ext hx8)
    replace HVB := Lib.hid (HVB.out.ext hx8)
    clear hx8 HQ
    have HCL := Lib.hid (cloneB (.slice a1 mt.toNat cap1) bl w8 (HCT.out.ext HX.out) (by omega))
    go_wp2_with fail
    refine HCL.out.mono ?_
    rintro e w9 ⟨u9, rfl, hu9, hx9⟩
    replace HB := Lib.hid (HB.out.ext hx9)
    replace HX := Lib.hid (HX.out.trans hx9)
    replace HBB := Lib.hid (HBB.out.ext hx9)
    replace HVB := Lib.hid (HVB.out.ext hx9)
    have HI9 := Lib.hid (Own.ints hu9)
    obtain ⟨au9, cu9, rfl⟩ := own_sl hu9
    have hcu9 : bl.length ≤ cu9 ∧ cu9 ≤ 9223372036854775807 := by obtain ⟨_, _, e, h1, h2⟩ := Sl.shape HI9.out; simp only [Value.slice.injEq] at e; omega
    clear hx9 HCL hu9
    go_wp2_with fail
    go_loopg [13, 14, 52] N.length (fun g s13 s14 i wr => ∃ j : Nat, j ≤ N.length ∧ g = N.length - j ∧ i = .int .i64 j ∧ Ext w9 wr)
    case atStart => exact ⟨0, Nat.zero_le _, rfl, rfl, Ext.refl _⟩
    case round =>
      obtain ⟨j, hj, hg, rfl, hxr⟩ := hrel
      have Hg := Lib.hid hg
      have HBr := Lib.hid (HB.out.ext hxr)
      have HXr := Lib.hid (HX.out.trans hxr)
      have HBBr := Lib.hid (HBB.out.ext hxr)
      have HVBr := Lib.hid (HVB.out.ext hxr)
      have HIr := Lib.hid (HI9.out.ext hxr)
      have HX9 := Lib.hid hxr
      clear hg HB HX HBB HVB HI9 hxr
      by_cases hlt : j < N.length
      · by_cases h6 : j = 6
        · obtain ⟨b2, o2, rfl, hcell⟩ := (H2.out.ext HXr.out).atD hlt
          subst h6
          go_upto_region 24 with fail
          refine wp_region_gro groB24 [0, 1, 2, 3, 4, 5, 6, 7, 8, 9, 10, 11, 12] hmo (by kernel_rfl) rfl (by kernel_rfl) (fun _ _ _ _ _ h => h) ?_
          have hdr : Ext wr wr.drew := Ext.drewN wr 1
          have HXG := Lib.hid (HXr.out.trans hdr)
          have HBG := Lib.hid (HBr.out.ext hdr)
          have HBBG := Lib.hid (HBBr.out.ext hdr)
          have HVG := Lib.hid (HVBr.out.ext hdr)
          have HIG := Lib.hid (HIr.out.ext hdr)
          clear hdr
          generalize wr.drew = wz at *
          obtain ⟨c0, c1, c2, c3, c4, c5, c6, c7, c8, c9⟩ := RowAt.facts10 (vs := hv B) (HBBG.out)
          unfold hv at c0 c1 c2 c3 c4 c5 c6 c7 c8 c9
          dsimp only at c0 c1 c2 c3 c4 c5 c6 c7 c8 c9
          obtain ⟨e0, e1, e2, e3, e4, e5, e6, e7, e8, e9⟩ := RowAt.facts10 (vs := hv A) (HBG.out)
          unfold hv at e0 e1 e2 e3 e4 e5 e6 e7 e8 e9
          dsimp only at e0 e1 e2 e3 e4 e5 e6 e7 e8 e9
          have hcon := lawOwn_hv A D wz (HV.out.ext HXG.out)
          try unfold dv at hcon
          try unfold nv at hcon
          try unfold dcells at hcon
          try unfold ncells at hcon
          try unfold nsA at hcon
          try unfold ofV at hcon
          try unfold noV at hcon
          try unfold noN at hcon
          try unfold hv at hcon
          try dsimp only at hcon
          have HOW2 := Lib.hid hcon
          clear hcon
          have hblc : bl.length ≤ cap1 := by have := HBE.out; omega
          repeat (first
            | (refine groL_pure rfl rfl ?_; intro K hK; go_simp; refine hK _ ?_; clear hK K)
            | (refine groL_read rfl rfl ?_; intro K S hS hK; go_simp; refine hK _ ?_; clear hK K hS S)
            | (refine groL_read rfl rfl ?_; intro K S hS hK; go_simp; refine ⟨hS _ ?_, hK _ ?_⟩; (clear hK K hS S; intro w' hx'; have hce := ext_some hx'; go_simp); clear hK K hS S)
            | (refine groL_write rfl rfl ?_; intro K hK; go_simp; refine hK _ _ ?_; clear hK K))
          refine groL_grow rfl rfl ?_
          intro K hK
          go_simp
          (refine HOW2.out.mono ?_; rintro e wy ⟨F, rfl, howF, hxy⟩)
          go_simp
          refine hK _ _ ⟨hxy, ?_⟩
          clear hK K
          clear c0 c1 c2 c3 c4 c5 c6 c7 c8 c9
          clear e0 e1 e2 e3 e4 e5 e6 e7 e8 e9
          have hcon := lawSame_yes (hv B) (hv F) (cutD D) (cutD D) wy (HVG.out.ext hxy) howF.view (fun _ _ => rfl)
          try unfold dv at hcon
          try unfold nv at hcon
          try unfold dcells at hcon
          try unfold ncells at hcon
          try unfold nsA at hcon
          try unfold ofV at hcon
          try unfold noV at hcon
          try unfold noN at hcon
          try unfold hv at hcon
          try dsimp only at hcon
          have HSM2 := Lib.hid hcon
          clear hcon
          repeat (first
            | (refine groL_pure rfl rfl ?_; intro K hK; go_simp; refine hK _ ?_; clear hK K)
            | (refine groL_read rfl rfl ?_; intro K S hS hK; go_simp; refine hK _ ?_; clear hK K hS S)
            | (refine groL_read rfl rfl ?_; intro K S hS hK; go_simp; refine ⟨hS _ ?_, hK _ ?_⟩; (clear hK K hS S; intro w' hx'; have hce := ext_some hx'; go_simp); clear hK K hS S)
            | (refine groL_write rfl rfl ?_; intro K hK; go_simp; refine hK _ _ ?_; clear hK K))
          refine groL_grow rfl rfl ?_
          intro K hK
          go_simp
          (refine HSM2.out.mono ?_; rintro e wx ⟨rfl, hxx⟩)
          go_simp
          refine hK _ _ ⟨hxx, ?_⟩
          clear hK K
          have hcl : Ints wx .u8 (.slice a1 bl.length cap1) bl := by have h := (HCT.out.ext (HXG.out.trans hxy)).ext hxx; rw [← HBE.out] at h; exact h
          have HEQ := Lib.hid (ext_of_drew (equalB_yes _ _ bl bl wx ((HIG.out.ext hxy).ext hxx) hcl rfl))
          repeat (first
            | (refine groL_pure rfl rfl ?_; intro K hK; go_simp; refine hK _ ?_; clear hK K)
            | (refine groL_read rfl rfl ?_; intro K S hS hK; go_simp; refine hK _ ?_; clear hK K hS S)
            | (refine groL_read rfl rfl ?_; intro K S hS hK; go_simp; refine ⟨hS _ ?_, hK _ ?_⟩; (clear hK K hS S; intro w' hx'; have hce := ext_some hx'; go_simp); clear hK K hS S)
            | (refine groL_write rfl rfl ?_; intro K hK; go_simp; refine hK _ _ ?_; clear hK K))
          refine groL_grow rfl rfl ?_
          intro K hK
          go_simp
          (refine HEQ.out.mono ?_; rintro e wv ⟨rfl, hxv⟩)
          go_simp
          refine hK _ _ ⟨hxv, ?_⟩
          clear hK K
          repeat (first
            | (refine groL_pure rfl rfl ?_; intro K hK; go_simp; refine hK _ ?_; clear hK K)
            | (refine groL_read rfl rfl ?_; intro K S hS hK; go_simp; refine hK _ ?_; clear hK K hS S)
            | (refine groL_read rfl rfl ?_; intro K S hS hK; go_simp; refine ⟨hS _ ?_, hK _ ?_⟩; (clear hK K hS S; intro w' hx'; have hce := ext_some hx'; go_simp); clear hK K hS S)
            | (refine groL_write rfl rfl ?_; intro K hK; go_simp; refine hK _ _ ?_; clear hK K))
          refine groL_nil ?_
          go_wp2_with fail
          go_ret
          exact ⟨rfl, ((HXG.out.trans hxy).trans hxx).trans hxv⟩
        · have hne : ((j : Int) == 6) = false := by simp; omega
          obtain ⟨b2, o2, rfl, hcell⟩ := (H2.out.ext HXr.out).atD hlt
          generalize N.getD j 0 = q at hcell
          by_cases hout : q < 0 ∨ (bl.length : Int) < q
          · have hcon := dread_out (.slice au9 bl.length cu9) bl q wr HIr.out hout
            try unfold dv at hcon
            try unfold nv at hcon
            try unfold dcells at hcon
            try unfold ncells at hcon
            try unfold nsA at hcon
            try unfold ofV at hcon
            try unfold noV at hcon
            try unfold noN at hcon
            try unfold hv at hcon
            try dsimp only at hcon
            have HRD := Lib.hid hcon
            clear hcon
            go_wp2_with fail
            refine HRD.out.mono ?_
            rintro e wb ⟨rfl, hxb⟩
            have hbn : RowAt (wb.alloc (.cells #[.slice none 0 0, .slice none 0 0, .slice none 0 0, .slice none 0 0, .slice none 0 0, .slice none 0 0, .slice none 0 0, .slice none 0 0, .slice none 0 0, .slice none 0 0] 28)) wb.heap.size 28 (dcells noV) := RowAt.new _ _ _
            have HBN := Lib.hid hbn
            have HXB := Lib.hid (HX9.out.trans (hxb.trans (Ext.alloc wb (.cells #[.slice none 0 0, .slice none 0 0, .slice none 0 0, .slice none 0 0, .slice none 0 0, .slice none 0 0, .slice none 0 0, .slice none 0 0, .slice none 0 0, .slice none 0 0] 28))))
            obtain ⟨z, hz⟩ : ∃ z, wb.heap.size = z := ⟨_, rfl⟩
            clear hbn hxb HRD
            go_upto_region 17 with fail
            generalize wb.alloc (.cells #[.slice none 0 0, .slice none 0 0, .slice none 0 0, .slice none 0 0, .slice none 0 0, .slice none 0 0, .slice none 0 0, .slice none 0 0, .slice none 0 0, .slice none 0 0] 28) = wc at *
            rw [hz] at *
            clear hz
            obtain ⟨c0, c1, c2, c3, c4, c5, c6, c7, c8, c9⟩ := RowAt.facts10 (vs := noV) HBN.out
            unfold noV at c0 c1 c2 c3 c4 c5 c6 c7 c8 c9
            try dsimp only at c0 c1 c2 c3 c4 c5 c6 c7 c8 c9
            have hcon := none_any wc
            try unfold dv at hcon
            try unfold nv at hcon
            try unfold dcells at hcon
            try unfold ncells at hcon
            try unfold nsA at hcon
            try unfold ofV at hcon
            try unfold noV at hcon
            try unfold noN at hcon
            try unfold hv at hcon
            try dsimp only at hcon
            have HNO := Lib.hid hcon
            clear hcon
            by_cases hq0 : q < 0
            · go_wp2_with fail
              refine HNO.out.mono ?_
              rintro e wd ⟨rfl, hxd⟩
              clear c0 c1 c2 c3 c4 c5 c6 c7 c8 c9
              go_wp2_with fail
              go_roundg (N.length - (j + 1))
              case measure => have := Hg.out; omega
              case rel => exact ⟨j + 1, by omega, rfl, by go_num, HXB.out.trans hxd⟩
            · have hq1 : (bl.length : Int) < q := by omega
              go_wp2_with fail
              refine HNO.out.mono ?_
              rintro e wd ⟨rfl, hxd⟩
              clear c0 c1 c2 c3 c4 c5 c6 c7 c8 c9
              go_wp2_with fail
              go_roundg (N.length - (j + 1))
              case measure => have := Hg.out; omega
              case rel => exact ⟨j + 1, by omega, rfl, by go_num, HXB.out.trans hxd⟩
          · obtain ⟨p, rfl⟩ := Int.eq_ofNat_of_zero_le (show 0 ≤ q by omega)
            have hpl : p ≤ bl.length := by omega
            have hq0 : decide ((p : Int) < 0) = false := decide_eq_false (by omega)
            have hq1 : decide (bl.length < p) = false := decide_eq_false (by omega)
            cases hrt : readTo bl p 5 with
            | none =>
              have hcon := dread_none HBL.out HIr.out hpl (by omega) hrt
              try unfold dv at hcon
              try unfold nv at hcon
              try unfold dcells at hcon
              try unfold ncells at hcon
              try unfold nsA at hcon
              try unfold ofV at hcon
              try unfold noV at hcon
              try unfold noN at hcon
              try unfold hv at hcon
              try dsimp only at hcon
              have HRD := Lib.hid hcon
              clear hcon
              go_wp2_with fail
              refine HRD.out.mono ?_
              rintro e wb ⟨rfl, hxb⟩
              have hbn : RowAt (wb.alloc (.cells #[.slice none 0 0, .slice none 0 0, .slice none 0 0, .slice none 0 0, .slice none 0 0, .slice none 0 0, .slice none 0 0, .slice none 0 0, .slice none 0 0, .slice none 0 0] 28)) wb.heap.size 28 (dcells noV) := RowAt.new _ _ _
              have HBN := Lib.hid hbn
              have HIB := Lib.hid (HIr.out.ext (hxb.trans (Ext.alloc wb (.cells #[.slice none 0 0, .slice none 0 0, .slice none 0 0, .slice none 0 0, .slice none 0 0, .slice none 0 0, .slice none 0 0, .slice none 0 0, .slice none 0 0, .slice none 0 0] 28))))
              have HXB := Lib.hid (HX9.out.trans (hxb.trans (Ext.alloc wb (.cells #[.slice none 0 0, .slice none 0 0, .slice none 0 0, .slice none 0 0, .slice none 0 0, .slice none 0 0, .slice none 0 0, .slice none 0 0, .slice none 0 0, .slice none 0 0] 28))))
              obtain ⟨z, hz⟩ : ∃ z, wb.heap.size = z := ⟨_, rfl⟩
              clear hbn hxb HRD
              go_upto_region 17 with fail
              generalize wb.alloc (.cells #[.slice none 0 0, .slice none 0 0, .slice none 0 0, .slice none 0 0, .slice none 0 0, .slice none 0 0, .slice none 0 0, .slice none 0 0, .slice none 0 0, .slice none 0 0] 28) = wc at *
              rw [hz] at *
              clear hz
              have hcon := refRead_none HBL.out HIB.out hpl (by omega) hrt
              try unfold dv at hcon
              try unfold nv at hcon
              try unfold dcells at hcon
              try unfold ncells at hcon
              try unfold nsA at hcon
              try unfold ofV at hcon
              try unfold noV at hcon
              try unfold noN at hcon
              try unfold hv at hcon
              try dsimp only at hcon
              have HRR := Lib.hid hcon
              clear hcon
              go_wp2_with fail
              refine HRR.out.mono ?_
              rintro e we ⟨rfl, hxe⟩
              have hxf := hxe.trans (Ext.alloc we (.cells #[.slice none 0 0, .slice none 0 0, .slice none 0 0, .slice none 0 0, .slice none 0 0] 37))
              have HXF := Lib.hid (HXB.out.trans hxf)
              have HBF := Lib.hid (HBN.out.ext hxf)
              clear hxf hxe HRR HBN HXB
              go_upto_region 21 with fail
              generalize we.alloc (.cells #[.slice none 0 0, .slice none 0 0, .slice none 0 0, .slice none 0 0, .slice none 0 0] 37) = wf at *
              refine wp_region_gro groB21 [0, 1, 2, 3, 4, 5, 6, 7, 8, 9, 10, 11, 12, 13, 14, 15, 16, 17, 18, 19, 20, 21, 22, 23, 24, 25, 26, 27, 28, 29, 31, 30, 32, 33, 34, 35, 36] hmo (by kernel_rfl) rfl (by kernel_rfl) (fun _ _ _ _ _ h => h) ?_
              have hdr : Ext wf wf.drew := Ext.drewN wf 1
              have HXG := Lib.hid (HXF.out.trans hdr)
              have HBG := Lib.hid (HBF.out.ext hdr)
              clear hdr HXF HBF
              generalize wf.drew = wg at *
              obtain ⟨c0, c1, c2, c3, c4, c5, c6, c7, c8, c9⟩ := RowAt.facts10 (vs := noV) HBG.out
              unfold noV at c0 c1 c2 c3 c4 c5 c6 c7 c8 c9
              try dsimp only at c0 c1 c2 c3 c4 c5 c6 c7 c8 c9
              have hcon := none_any wg
              try unfold dv at hcon
              try unfold nv at hcon
              try unfold dcells at hcon
              try unfold ncells at hcon
              try unfold nsA at hcon
              try unfold ofV at hcon
              try unfold noV at hcon
              try unfold noN at hcon
              try unfold hv at hcon
              try dsimp only at hcon
              have HNO := Lib.hid hcon
              clear hcon
              repeat (first
                | (refine groL_pure rfl rfl ?_; intro K hK; go_simp; refine hK _ ?_; clear hK K)
                | (refine groL_read rfl rfl ?_; intro K S hS hK; go_simp; refine hK _ ?_; clear hK K hS S)
                | (refine groL_read rfl rfl ?_; intro K S hS hK; go_simp; refine ⟨hS _ ?_, hK _ ?_⟩; (clear hK K hS S; intro w' hx'; have hce := ext_some hx'; go_simp); clear hK K hS S)
                | (refine groL_write rfl rfl ?_; intro K hK; go_simp; refine hK _ _ ?_; clear hK K))
              refine groL_grow rfl rfl ?_
              intro K hK
              go_simp
              (refine HNO.out.mono ?_; rintro e wh ⟨rfl, hxh⟩)
              go_simp
              refine hK _ _ ⟨hxh, ?_⟩
              clear hK K
              clear c0 c1 c2 c3 c4 c5 c6 c7 c8 c9
              repeat (first
                | (refine groL_pure rfl rfl ?_; intro K hK; go_simp; refine hK _ ?_; clear hK K)
                | (refine groL_read rfl rfl ?_; intro K S hS hK; go_simp; refine hK _ ?_; clear hK K hS S)
                | (refine groL_read rfl rfl ?_; intro K S hS hK; go_simp; refine ⟨hS _ ?_, hK _ ?_⟩; (clear hK K hS S; intro w' hx'; have hce := ext_some hx'; go_simp); clear hK K hS S)
                | (refine groL_grow rfl rfl ?_; intro K hK; go_simp; refine hK _ _ ⟨Ext.refl _, ?_⟩; clear hK K))
              refine groL_nil ?_
              go_wp2_with fail
              go_roundg (N.length - (j + 1))
              case measure => have := Hg.out; omega
              case rel => exact ⟨j + 1, by omega, rfl, by go_num, HXG.out.trans hxh⟩
            | some r =>
              obtain ⟨M, q2⟩ := r
              have hcon := dread_ok HBL.out HIr.out hpl (by omega) hrt
              try unfold dv at hcon
              try unfold nv at hcon
              try unfold dcells at hcon
              try unfold ncells at hcon
              try unfold nsA at hcon
              try unfold ofV at hcon
              try unfold noV at hcon
              try unfold noN at hcon
              try unfold hv at hcon
              try dsimp only at hcon
              have HRD := Lib.hid hcon
              clear hcon
              go_wp2_with fail
              refine HRD.out.mono ?_
              rintro e wb ⟨C, DC, rfl, howC, hokC, hNC, hxb⟩
              have hbn : RowAt (wb.alloc (.cells #[Value.slice (C 0).1 (C 0).2.1 (C 0).2.2.1, .slice (C 0).2.2.2.1 (C 0).2.2.2.2.1 (C 0).2.2.2.2.2, Value.slice (C 1).1 (C 1).2.1 (C 1).2.2.1, .slice (C 1).2.2.2.1 (C 1).2.2.2.2.1 (C 1).2.2.2.2.2, Value.slice (C 2).1 (C 2).2.1 (C 2).2.2.1, .slice (C 2).2.2.2.1 (C 2).2.2.2.2.1 (C 2).2.2.2.2.2, Value.slice (C 3).1 (C 3).2.1 (C 3).2.2.1, .slice (C 3).2.2.2.1 (C 3).2.2.2.2.1 (C 3).2.2.2.2.2, Value.slice (C 4).1 (C 4).2.1 (C 4).2.2.1, .slice (C 4).2.2.2.1 (C 4).2.2.2.2.1 (C 4).2.2.2.2.2] 28)) wb.heap.size 28 (dcells (hv C)) := RowAt.new _ _ _
              have HBN := Lib.hid hbn
              have HVC := Lib.hid (howC.view.ext (Ext.alloc wb (.cells #[Value.slice (C 0).1 (C 0).2.1 (C 0).2.2.1, .slice (C 0).2.2.2.1 (C 0).2.2.2.2.1 (C 0).2.2.2.2.2, Value.slice (C 1).1 (C 1).2.1 (C 1).2.2.1, .slice (C 1).2.2.2.1 (C 1).2.2.2.2.1 (C 1).2.2.2.2.2, Value.slice (C 2).1 (C 2).2.1 (C 2).2.2.1, .slice (C 2).2.2.2.1 (C 2).2.2.2.2.1 (C 2).2.2.2.2.2, Value.slice (C 3).1 (C 3).2.1 (C 3).2.2.1, .slice (C 3).2.2.2.1 (C 3).2.2.2.2.1 (C 3).2.2.2.2.2, Value.slice (C 4).1 (C 4).2.1 (C 4).2.2.1, .slice (C 4).2.2.2.1 (C 4).2.2.2.2.1 (C 4).2.2.2.2.2] 28)))
              have HSC : Hid (DicS DC) := Lib.hid (hokC.sizes (fun i hi => (hNC i hi).2))
              have HNC : Hid (∀ i, i < 5 → ofD DC i = M i) := Lib.hid (fun i hi => (hNC i hi).1)
              have HOC := Lib.hid hokC
              have HIB := Lib.hid (HIr.out.ext (hxb.trans (Ext.alloc wb (.cells #[Value.slice (C 0).1 (C 0).2.1 (C 0).2.2.1, .slice (C 0).2.2.2.1 (C 0).2.2.2.2.1 (C 0).2.2.2.2.2, Value.slice (C 1).1 (C 1).2.1 (C 1).2.2.1, .slice (C 1).2.2.2.1 (C 1).2.2.2.2.1 (C 1).2.2.2.2.2, Value.slice (C 2).1 (C 2).2.1 (C 2).2.2.1, .slice (C 2).2.2.2.1 (C 2).2.2.2.2.1 (C 2).2.2.2.2.2, Value.slice (C 3).1 (C 3).2.1 (C 3).2.2.1, .slice (C 3).2.2.2.1 (C 3).2.2.2.2.1 (C 3).2.2.2.2.2, Value.slice (C 4).1 (C 4).2.1 (C 4).2.2.1, .slice (C 4).2.2.2.1 (C 4).2.2.2.2.1 (C 4).2.2.2.2.2] 28))))
              have HXB := Lib.hid (HX9.out.trans (hxb.trans (Ext.alloc wb (.cells #[Value.slice (C 0).1 (C 0).2.1 (C 0).2.2.1, .slice (C 0).2.2.2.1 (C 0).2.2.2.2.1 (C 0).2.2.2.2.2, Value.slice (C 1).1 (C 1).2.1 (C 1).2.2.1, .slice (C 1).2.2.2.1 (C 1).2.2.2.2.1 (C 1).2.2.2.2.2, Value.slice (C 2).1 (C 2).2.1 (C 2).2.2.1, .slice (C 2).2.2.2.1 (C 2).2.2.2.2.1 (C 2).2.2.2.2.2, Value.slice (C 3).1 (C 3).2.1 (C 3).2.2.1, .slice (C 3).2.2.2.1 (C 3).2.2.2.2.1 (C 3).2.2.2.2.2, Value.slice (C 4).1 (C 4).2.1 (C 4).2.2.1, .slice (C 4).2.2.2.1 (C 4).2.2.2.2.1 (C 4).2.2.2.2.2] 28))))
              obtain ⟨z, hz⟩ : ∃ z, wb.heap.size = z := ⟨_, rfl⟩
              clear hbn hxb HRD howC hokC hNC
              go_upto_region 17 with fail
              generalize wb.alloc (.cells #[Value.slice (C 0).1 (C 0).2.1 (C 0).2.2.1, .slice (C 0).2.2.2.1 (C 0).2.2.2.2.1 (C 0).2.2.2.2.2, Value.slice (C 1).1 (C 1).2.1 (C 1).2.2.1, .slice (C 1).2.2.2.1 (C 1).2.2.2.2.1 (C 1).2.2.2.2.2, Value.slice (C 2).1 (C 2).2.1 (C 2).2.2.1, .slice (C 2).2.2.2.1 (C 2).2.2.2.2.1 (C 2).2.2.2.2.2, Value.slice (C 3).1 (C 3).2.1 (C 3).2.2.1, .slice (C 3).2.2.2.1 (C 3).2.2.2.2.1 (C 3).2.2.2.2.2, Value.slice (C 4).1 (C 4).2.1 (C 4).2.2.1, .slice (C 4).2.2.2.1 (C 4).2.2.2.2.1 (C 4).2.2.2.2.2] 28) = wc at *
              rw [hz] at *
              clear hz
              have hcon := refRead_ok HBL.out HIB.out hpl (by omega) hrt
              try unfold dv at hcon
              try unfold nv at hcon
              try unfold dcells at hcon
              try unfold ncells at hcon
              try unfold nsA at hcon
              try unfold ofV at hcon
              try unfold noV at hcon
              try unfold noN at hcon
              try unfold hv at hcon
              try dsimp only at hcon
              have HRR := Lib.hid hcon
              clear hcon
              go_wp2_with fail
              refine HRR.out.mono ?_
              rintro e we ⟨E, rfl, hnE, hxe⟩
              have hxf := hxe.trans (Ext.alloc we (.cells #[Value.slice (E 0).1 (M 0).length (E 0).2, Value.slice (E 1).1 (M 1).length (E 1).2, Value.slice (E 2).1 (M 2).length (E 2).2, Value.slice (E 3).1 (M 3).length (E 3).2, Value.slice (E 4).1 (M 4).length (E 4).2] 37))
              have HNE := Lib.hid (NamV.ext hnE (Ext.alloc we (.cells #[Value.slice (E 0).1 (M 0).length (E 0).2, Value.slice (E 1).1 (M 1).length (E 1).2, Value.slice (E 2).1 (M 2).length (E 2).2, Value.slice (E 3).1 (M 3).length (E 3).2, Value.slice (E 4).1 (M 4).length (E 4).2] 37)))
              have hbm : RowAt (we.alloc (.cells #[Value.slice (E 0).1 (M 0).length (E 0).2, Value.slice (E 1).1 (M 1).length (E 1).2, Value.slice (E 2).1 (M 2).length (E 2).2, Value.slice (E 3).1 (M 3).length (E 3).2, Value.slice (E 4).1 (M 4).length (E 4).2] 37)) we.heap.size 37 (ncells (nsA E M)) := RowAt.new _ _ _
              have HBM := Lib.hid hbm
              have HXF := Lib.hid (HXB.out.trans hxf)
              have HBF := Lib.hid (HBN.out.ext hxf)
              have HVF := Lib.hid (HVC.out.ext hxf)
              obtain ⟨x, hx⟩ : ∃ x, we.heap.size = x := ⟨_, rfl⟩
              clear hxf hxe HRR HBN HXB HVC hbm hnE
              go_upto_region 21 with fail
              generalize we.alloc (.cells #[Value.slice (E 0).1 (M 0).length (E 0).2, Value.slice (E 1).1 (M 1).length (E 1).2, Value.slice (E 2).1 (M 2).length (E 2).2, Value.slice (E 3).1 (M 3).length (E 3).2, Value.slice (E 4).1 (M 4).length (E 4).2] 37) = wf at *
              rw [hx] at *
              clear hx
              refine wp_region_gro groB21 [0, 1, 2, 3, 4, 5, 6, 7, 8, 9, 10, 11, 12, 13, 14, 15, 16, 17, 18, 19, 20, 21, 22, 23, 24, 25, 26, 27, 28, 29, 31, 30, 32, 33, 34, 35, 36] hmo (by kernel_rfl) rfl (by kernel_rfl) (fun _ _ _ _ _ h => h) ?_
              have hdr : Ext wf wf.drew := Ext.drewN wf 1
              have HXG := Lib.hid (HXF.out.trans hdr)
              have HBG := Lib.hid (HBF.out.ext hdr)
              have HMG := Lib.hid (HBM.out.ext hdr)
              have HVG := Lib.hid (HVF.out.ext hdr)
              have HNG := Lib.hid (NamV.ext HNE.out hdr)
              clear hdr HXF HBF HBM HVF HNE
              generalize wf.drew = wg at *
              obtain ⟨c0, c1, c2, c3, c4, c5, c6, c7, c8, c9⟩ := RowAt.facts10 (vs := hv C) (HBG.out)
              unfold hv at c0 c1 c2 c3 c4 c5 c6 c7 c8 c9
              dsimp only at c0 c1 c2 c3 c4 c5 c6 c7 c8 c9
              have hcon := dright_yes (hv C) DC wg HVG.out HSC.out HOC.out
              try unfold dv at hcon
              try unfold nv at hcon
              try unfold dcells at hcon
              try unfold ncells at hcon
              try unfold nsA at hcon
              try unfold ofV at hcon
              try unfold noV at hcon
              try unfold noN at hcon
              try unfold hv at hcon
              try dsimp only at hcon
              have HNO := Lib.hid hcon
              clear hcon
              repeat (first
                | (refine groL_pure rfl rfl ?_; intro K hK; go_simp; refine hK _ ?_; clear hK K)
                | (refine groL_read rfl rfl ?_; intro K S hS hK; go_simp; refine hK _ ?_; clear hK K hS S)
                | (refine groL_read rfl rfl ?_; intro K S hS hK; go_simp; refine ⟨hS _ ?_, hK _ ?_⟩; (clear hK K hS S; intro w' hx'; have hce := ext_some hx'; go_simp); clear hK K hS S)
                | (refine groL_write rfl rfl ?_; intro K hK; go_simp; refine hK _ _ ?_; clear hK K))
              refine groL_grow rfl rfl ?_
              intro K hK
              go_simp
              refine hK _ _ ⟨Ext.refl _, ?_⟩
              clear hK K
              repeat (first
                | (refine groL_pure rfl rfl ?_; intro K hK; go_simp; refine hK _ ?_; clear hK K)
                | (refine groL_read rfl rfl ?_; intro K S hS hK; go_simp; refine hK _ ?_; clear hK K hS S)
                | (refine groL_read rfl rfl ?_; intro K S hS hK; go_simp; refine ⟨hS _ ?_, hK _ ?_⟩; (clear hK K hS S; intro w' hx'; have hce := ext_some hx'; go_simp); clear hK K hS S)
                | (refine groL_write rfl rfl ?_; intro K hK; go_simp; refine hK _ _ ?_; clear hK K))
              refine groL_grow rfl rfl ?_
              intro K hK
              go_simp
              (refine HNO.out.mono ?_; rintro e wh ⟨rfl, hxh⟩)
              go_simp
              refine hK _ _ ⟨hxh, ?_⟩
              clear hK K
              clear c0 c1 c2 c3 c4 c5 c6 c7 c8 c9
              obtain ⟨c0, c1, c2, c3, c4, c5, c6, c7, c8, c9⟩ := RowAt.facts10 (vs := hv C) ((HBG.out.ext hxh))
              unfold hv at c0 c1 c2 c3 c4 c5 c6 c7 c8 c9
              dsimp only at c0 c1 c2 c3 c4 c5 c6 c7 c8 c9
              obtain ⟨n0, n1, n2, n3, n4⟩ := RowAt.facts5 (ns := nsA E M) (HMG.out.ext hxh)
              simp only [nsA] at n0 n1 n2 n3 n4
              have hcon := of_hv C wh
              try unfold dv at hcon
              try unfold nv at hcon
              try unfold dcells at hcon
              try unfold ncells at hcon
              try unfold nsA at hcon
              try unfold ofV at hcon
              try unfold noV at hcon
              try unfold noN at hcon
              try unfold hv at hcon
              try dsimp only at hcon
              have HOF := Lib.hid hcon
              clear hcon
              repeat (first
                | (refine groL_pure rfl rfl ?_; intro K hK; go_simp; refine hK _ ?_; clear hK K)
                | (refine groL_read rfl rfl ?_; intro K S hS hK; go_simp; refine hK _ ?_; clear hK K hS S)
                | (refine groL_read rfl rfl ?_; intro K S hS hK; go_simp; refine ⟨hS _ ?_, hK _ ?_⟩; (clear hK K hS S; intro w' hx'; have hce := ext_some hx'; go_simp); clear hK K hS S)
                | (refine groL_write rfl rfl ?_; intro K hK; go_simp; refine hK _ _ ?_; clear hK K))
              refine groL_grow rfl rfl ?_
              intro K hK
              go_simp
              (refine HOF.out.mono ?_; rintro e wi ⟨rfl, hxi⟩)
              go_simp
              refine hK _ _ ⟨hxi, ?_⟩
              clear hK K
              have hcon := refSame_yes (ofV (hv C)) (nsA E M) (ofD DC) M wi (DicV.names (HVG.out.ext (hxh.trans hxi))) (NamV.ext HNG.out (hxh.trans hxi)) HNC.out
              try unfold dv at hcon
              try unfold nv at hcon
              try unfold dcells at hcon
              try unfold ncells at hcon
              try unfold nsA at hcon
              try unfold ofV at hcon
              try unfold noV at hcon
              try unfold noN at hcon
              try unfold hv at hcon
              try dsimp only at hcon
              have HSM := Lib.hid hcon
              clear hcon
              clear c0 c1 c2 c3 c4 c5 c6 c7 c8 c9
              clear n0 n1 n2 n3 n4
              repeat (first
                | (refine groL_pure rfl rfl ?_; intro K hK; go_simp; refine hK _ ?_; clear hK K)
                | (refine groL_read rfl rfl ?_; intro K S hS hK; go_simp; refine hK _ ?_; clear hK K hS S)
                | (refine groL_read rfl rfl ?_; intro K S hS hK; go_simp; refine ⟨hS _ ?_, hK _ ?_⟩; (clear hK K hS S; intro w' hx'; have hce := ext_some hx'; go_simp); clear hK K hS S)
                | (refine groL_write rfl rfl ?_; intro K hK; go_simp; refine hK _ _ ?_; clear hK K))
              refine groL_grow rfl rfl ?_
              intro K hK
              go_simp
              (refine HSM.out.mono ?_; rintro e wj ⟨rfl, hxj⟩)
              go_simp
              refine hK _ _ ⟨hxj, ?_⟩
              clear hK K
              repeat (first
                | (refine groL_pure rfl rfl ?_; intro K hK; go_simp; refine hK _ ?_; clear hK K)
                | (refine groL_read rfl rfl ?_; intro K S hS hK; go_simp; refine hK _ ?_; clear hK K hS S)
                | (refine groL_read rfl rfl ?_; intro K S hS hK; go_simp; refine ⟨hS _ ?_, hK _ ?_⟩; (clear hK K hS S; intro w' hx'; have hce := ext_some hx'; go_simp); clear hK K hS S)
                | (refine groL_write rfl rfl ?_; intro K hK; go_simp; refine hK _ _ ?_; clear hK K))
              refine groL_nil ?_
              go_wp2_with fail
              go_roundg (N.length - (j + 1))
              case measure => have := Hg.out; omega
              case rel => exact ⟨j + 1, by omega, rfl, by go_num, ((HXG.out.trans hxh).trans hxi).trans hxj⟩
      · go_upto_region 24 with fail
        refine wp_region_gro groB24 [0, 1, 2, 3, 4, 5, 6, 7, 8, 9, 10, 11, 12] hmo (by kernel_rfl) rfl (by kernel_rfl) (fun _ _ _ _ _ h => h) ?_
        have hdr : Ext wr wr.drew := Ext.drewN wr 1
        have HXG := Lib.hid (HXr.out.trans hdr)
        have HBG := Lib.hid (HBr.out.ext hdr)
        have HBBG := Lib.hid (HBBr.out.ext hdr)
        have HVG := Lib.hid (HVBr.out.ext hdr)
        have HIG := Lib.hid (HIr.out.ext hdr)
        clear hdr
        generalize wr.drew = wz at *
        obtain ⟨c0, c1, c2, c3, c4, c5, c6, c7, c8, c9⟩ := RowAt.facts10 (vs := hv B) (HBBG.out)
        unfold hv at c0 c1 c2 c3 c4 c5 c6 c7 c8 c9
        dsimp only at c0 c1 c2 c3 c4 c5 c6 c7 c8 c9
        obtain ⟨e0, e1, e2, e3, e4, e5, e6, e7, e8, e9⟩ := RowAt.facts10 (vs := hv A) (HBG.out)
        unfold hv at e0 e1 e2 e3 e4 e5 e6 e7 e8 e9
        dsimp only at e0 e1 e2 e3 e4 e5 e6 e7 e8 e9
        have hcon := lawOwn_hv A D wz (HV.out.ext HXG.out)
        try unfold dv at hcon
        try unfold nv at hcon
        try unfold dcells at hcon
        try unfold ncells at hcon
        try unfold nsA at hcon
        try unfold ofV at hcon
        try unfold noV at hcon
        try unfold noN at hcon
        try unfold hv at hcon
        try dsimp only at hcon
        have HOW2 := Lib.hid hcon
        clear hcon
        have hblc : bl.length ≤ cap1 := by have := HBE.out; omega
        repeat (first
          | (refine groL_pure rfl rfl ?_; intro K hK; go_simp; refine hK _ ?_; clear hK K)
          | (refine groL_read rfl rfl ?_; intro K S hS hK; go_simp; refine hK _ ?_; clear hK K hS S)
          | (refine groL_read rfl rfl ?_; intro K S hS hK; go_simp; refine ⟨hS _ ?_, hK _ ?_⟩; (clear hK K hS S; intro w' hx'; have hce := ext_some hx'; go_simp); clear hK K hS S)
          | (refine groL_write rfl rfl ?_; intro K hK; go_simp; refine hK _ _ ?_; clear hK K))
        refine groL_grow rfl rfl ?_
        intro K hK
        go_simp
        (refine HOW2.out.mono ?_; rintro e wy ⟨F, rfl, howF, hxy⟩)
        go_simp
        refine hK _ _ ⟨hxy, ?_⟩
        clear hK K
        clear c0 c1 c2 c3 c4 c5 c6 c7 c8 c9
        clear e0 e1 e2 e3 e4 e5 e6 e7 e8 e9
        have hcon := lawSame_yes (hv B) (hv F) (cutD D) (cutD D) wy (HVG.out.ext hxy) howF.view (fun _ _ => rfl)
        try unfold dv at hcon
        try unfold nv at hcon
        try unfold dcells at hcon
        try unfold ncells at hcon
        try unfold nsA at hcon
        try unfold ofV at hcon
        try unfold noV at hcon
        try unfold noN at hcon
        try unfold hv at hcon
        try dsimp only at hcon
        have HSM2 := Lib.hid hcon
        clear hcon
        repeat (first
          | (refine groL_pure rfl rfl ?_; intro K hK; go_simp; refine hK _ ?_; clear hK K)
          | (refine groL_read rfl rfl ?_; intro K S hS hK; go_simp; refine hK _ ?_; clear hK K hS S)
          | (refine groL_read rfl rfl ?_; intro K S hS hK; go_simp; refine ⟨hS _ ?_, hK _ ?_⟩; (clear hK K hS S; intro w' hx'; have hce := ext_some hx'; go_simp); clear hK K hS S)
          | (refine groL_write rfl rfl ?_; intro K hK; go_simp; refine hK _ _ ?_; clear hK K))
        refine groL_grow rfl rfl ?_
        intro K hK
        go_simp
        (refine HSM2.out.mono ?_; rintro e wx ⟨rfl, hxx⟩)
        go_simp
        refine hK _ _ ⟨hxx, ?_⟩
        clear hK K
        have hcl : Ints wx .u8 (.slice a1 bl.length cap1) bl := by have h := (HCT.out.ext (HXG.out.trans hxy)).ext hxx; rw [← HBE.out] at h; exact h
        have HEQ := Lib.hid (ext_of_drew (equalB_yes _ _ bl bl wx ((HIG.out.ext hxy).ext hxx) hcl rfl))
        repeat (first
          | (refine groL_pure rfl rfl ?_; intro K hK; go_simp; refine hK _ ?_; clear hK K)
          | (refine groL_read rfl rfl ?_; intro K S hS hK; go_simp; refine hK _ ?_; clear hK K hS S)
          | (refine groL_read rfl rfl ?_; intro K S hS hK; go_simp; refine ⟨hS _ ?_, hK _ ?_⟩; (clear hK K hS S; intro w' hx'; have hce := ext_some hx'; go_simp); clear hK K hS S)
          | (refine groL_write rfl rfl ?_; intro K hK; go_simp; refine hK _ _ ?_; clear hK K))
        refine groL_grow rfl rfl ?_
        intro K hK
        go_simp
        (refine HEQ.out.mono ?_; rintro e wv ⟨rfl, hxv⟩)
        go_simp
        refine hK _ _ ⟨hxv, ?_⟩
        clear hK K
        repeat (first
          | (refine groL_pure rfl rfl ?_; intro K hK; go_simp; refine hK _ ?_; clear hK K)
          | (refine groL_read rfl rfl ?_; intro K S hS hK; go_simp; refine hK _ ?_; clear hK K hS S)
          | (refine groL_read rfl rfl ?_; intro K S hS hK; go_simp; refine ⟨hS _ ?_, hK _ ?_⟩; (clear hK K hS S; intro w' hx'; have hce := ext_some hx'; go_simp); clear hK K hS S)
          | (refine groL_write rfl rfl ?_; intro K hK; go_simp; refine hK _ _ ?_; clear hK K))
        refine groL_nil ?_
        go_wp2_with fail
        go_ret
        exact ⟨rfl, ((HXG.out.trans hxy).trans hxx).trans hxv⟩
  · obtain ⟨c0, c1, c2, c3, c4, c5, c6, c7, c8, c9⟩ := RowAt.facts10 (vs := hv B) (HBB.out)
    unfold hv at c0 c1 c2 c3 c4 c5 c6 c7 c8 c9
    dsimp only at c0 c1 c2 c3 c4 c5 c6 c7 c8 c9
    have hcon := dbytes_no (hv B) (cutD D) w3 HVB.out HSZ.out hok
    try unfold dv at hcon
    try unfold nv at hcon
    try unfold dcells at hcon
    try unfold ncells at hcon
    try unfold nsA at hcon
    try unfold ofV at hcon
    try unfold noV at hcon
    try unfold noN at hcon
    try unfold hv at hcon
    try dsimp only at hcon
    have HC1 := Lib.hid hcon
    clear hcon
    go_wp2_with fail
    refine HC1.out.mono ?_
    rintro e w4 ⟨rfl, hx4⟩
    replace HB := Lib.hid (HB.out.ext hx4)
    replace HX := Lib.hid (HX.out.trans hx4)
    replace HBB := Lib.hid (HBB.out.ext hx4)
    replace HVB := Lib.hid (HVB.out.ext hx4)
    clear c0 c1 c2 c3 c4 c5 c6 c7 c8 c9
    obtain ⟨c0, c1, c2, c3, c4, c5, c6, c7, c8, c9⟩ := RowAt.facts10 (vs := hv B) (HBB.out)
    unfold hv at c0 c1 c2 c3 c4 c5 c6 c7 c8 c9
    dsimp only at c0 c1 c2 c3 c4 c5 c6 c7 c8 c9
    have hcon := dright_no (hv B) (cutD D) w4 HVB.out HSZ.out hok
    try unfold dv at hcon
    try unfold nv at hcon
    try unfold dcells at hcon
    try unfold ncells at hcon
    try unfold nsA at hcon
    try unfold ofV at hcon
    try unfold noV at hcon
    try unfold noN at hcon
    try unfold hv at hcon
    try dsimp only at hcon
    have HC2 := Lib.hid hcon
    clear hcon
    clear HC1 hx4
    go_wp2_with fail
    refine HC2.out.mono ?_
    rintro e w7 ⟨rfl, hx7⟩
    replace HB := Lib.hid (HB.out.ext hx7)
    replace HX := Lib.hid (HX.out.trans hx7)
    replace HBB := Lib.hid (HBB.out.ext hx7)
    replace HVB := Lib.hid (HVB.out.ext hx7)
    clear c0 c1 c2 c3 c4 c5 c6 c7 c8 c9
    have HQ := Lib.hid (ext_of_drew (equalB_yes _ _ [] [] w7 (ints_nil _ _) (ints_nil _ _) rfl))
    clear HC2 hx7
    go_wp2_with fail
    refine HQ.out.mono ?_
    rintro e w8 ⟨rfl, hx8⟩
    replace HB := Lib.hid (HB.out.ext hx8)
    replace HX := Lib.hid (HX.out.trans hx8)
    replace HBB := Lib.hid (HBB.out.ext hx8)
    replace HVB := Lib.hid (HVB.out.ext hx8)
    clear hx8 HQ
    have HCL := Lib.hid (cloneB (.slice a1 mt.toNat cap1) bl w8 (HCT.out.ext HX.out) (by omega))
    go_wp2_with fail
    refine HCL.out.mono ?_
    rintro e w9 ⟨u9, rfl, hu9, hx9⟩
    replace HB := Lib.hid (HB.out.ext hx9)
    replace HX := Lib.hid (HX.out.trans hx9)
    replace HBB := Lib.hid (HBB.out.ext hx9)
    replace HVB := Lib.hid (HVB.out.ext hx9)
    have HI9 := Lib.hid (Own.ints hu9)
    obtain ⟨au9, cu9, rfl⟩ := own_sl hu9
    have hcu9 : bl.length ≤ cu9 ∧ cu9 ≤ 9223372036854775807 := by obtain ⟨_, _, e, h1, h2⟩ := Sl.shape HI9.out; simp only [Value.slice.injEq] at e; omega
    clear hx9 HCL hu9
    go_wp2_with fail
    go_loopg [13, 14, 52] N.length (fun g s13 s14 i wr => ∃ j : Nat, j ≤ N.length ∧ g = N.length - j ∧ i = .int .i64 j ∧ Ext w9 wr)
    case atStart => exact ⟨0, Nat.zero_le _, rfl, rfl, Ext.refl _⟩
    case round =>
      obtain ⟨j, hj, hg, rfl, hxr⟩ := hrel
      have Hg := Lib.hid hg
      have HBr := Lib.hid (HB.out.ext hxr)
      have HXr := Lib.hid (HX.out.trans hxr)
      have HBBr := Lib.hid (HBB.out.ext hxr)
      have HVBr := Lib.hid (HVB.out.ext hxr)
      have HIr := Lib.hid (HI9.out.ext hxr)
      have HX9 := Lib.hid hxr
      clear hg HB HX HBB HVB HI9 hxr
      by_cases hlt : j < N.length
      · by_cases h6 : j = 6
        · obtain ⟨b2, o2, rfl, hcell⟩ := (H2.out.ext HXr.out).atD hlt
          subst h6
          go_upto_region 24 with fail
          refine wp_region_gro groB24 [0, 1, 2, 3, 4, 5, 6, 7, 8, 9, 10, 11, 12] hmo (by kernel_rfl) rfl (by kernel_rfl) (fun _ _ _ _ _ h => h) ?_
          have hdr : Ext wr wr.drew := Ext.drewN wr 1
          have HXG := Lib.hid (HXr.out.trans hdr)
          have HBG := Lib.hid (HBr.out.ext hdr)
          have HBBG := Lib.hid (HBBr.out.ext hdr)
          have HVG := Lib.hid (HVBr.out.ext hdr)
          have HIG := Lib.hid (HIr.out.ext hdr)
          clear hdr
          generalize wr.drew = wz at *
          obtain ⟨c0, c1, c2, c3, c4, c5, c6, c7, c8, c9⟩ := RowAt.facts10 (vs := hv B) (HBBG.out)
          unfold hv at c0 c1 c2 c3 c4 c5 c6 c7 c8 c9
          dsimp only at c0 c1 c2 c3 c4 c5 c6 c7 c8 c9
          obtain ⟨e0, e1, e2, e3, e4, e5, e6, e7, e8, e9⟩ := RowAt.facts10 (vs := hv A) (HBG.out)
          unfold hv at e0 e1 e2 e3 e4 e5 e6 e7 e8 e9
          dsimp only at e0 e1 e2 e3 e4 e5 e6 e7 e8 e9
          have hcon := lawOwn_hv A D wz (HV.out.ext HXG.out)
          try unfold dv at hcon
          try unfold nv at hcon
          try unfold dcells at hcon
          try unfold ncells at hcon
          try unfold nsA at hcon
          try unfold ofV at hcon
          try unfold noV at hcon
          try unfold noN at hcon
          try unfold hv at hcon
          try dsimp only at hcon
          have HOW2 := Lib.hid hcon
          clear hcon
          have hblc : bl.length ≤ cap1 := by have := HBE.out; omega
          repeat (first
            | (refine groL_pure rfl rfl ?_; intro K hK; go_simp; refine hK _ ?_; clear hK K)
            | (refine groL_read rfl rfl ?_; intro K S hS hK; go_simp; refine hK _ ?_; clear hK K hS S)
            | (refine groL_read rfl rfl ?_; intro K S hS hK; go_simp; refine ⟨hS _ ?_, hK _ ?_⟩; (clear hK K hS S; intro w' hx'; have hce := ext_some hx'; go_simp); clear hK K hS S)
            | (refine groL_write rfl rfl ?_; intro K hK; go_simp; refine hK _ _ ?_; clear hK K))
          refine groL_grow rfl rfl ?_
          intro K hK
          go_simp
          (refine HOW2.out.mono ?_; rintro e wy ⟨F, rfl, howF, hxy⟩)
          go_simp
          refine hK _ _ ⟨hxy, ?_⟩
          clear hK K
          clear c0 c1 c2 c3 c4 c5 c6 c7 c8 c9
          clear e0 e1 e2 e3 e4 e5 e6 e7 e8 e9
          have hcon := lawSame_yes (hv B) (hv F) (cutD D) (cutD D) wy (HVG.out.ext hxy) howF.view (fun _ _ => rfl)
          try unfold dv at hcon
          try unfold nv at hcon
          try unfold dcells at hcon
          try unfold ncells at hcon
          try unfold nsA at hcon
          try unfold ofV at hcon
          try unfold noV at hcon
          try unfold noN at hcon
          try unfold hv at hcon
          try dsimp only at hcon
          have HSM2 := Lib.hid hcon
          clear hcon
          repeat (first
            | (refine groL_pure rfl rfl ?_; intro K hK; go_simp; refine hK _ ?_; clear hK K)
            | (refine groL_read rfl rfl ?_; intro K S hS hK; go_simp; refine hK _ ?_; clear hK K hS S)
            | (refine groL_read rfl rfl ?_; intro K S hS hK; go_simp; refine ⟨hS _ ?_, hK _ ?_⟩; (clear hK K hS S; intro w' hx'; have hce := ext_some hx'; go_simp); clear hK K hS S)
            | (refine groL_write rfl rfl ?_; intro K hK; go_simp; refine hK _ _ ?_; clear hK K))
          refine groL_grow rfl rfl ?_
          intro K hK
          go_simp
          (refine HSM2.out.mono ?_; rintro e wx ⟨rfl, hxx⟩)
          go_simp
          refine hK _ _ ⟨hxx, ?_⟩
          clear hK K
          have hcl : Ints wx .u8 (.slice a1 bl.length cap1) bl := by have h := (HCT.out.ext (HXG.out.trans hxy)).ext hxx; rw [← HBE.out] at h; exact h
          have HEQ := Lib.hid (ext_of_drew (equalB_yes _ _ bl bl wx ((HIG.out.ext hxy).ext hxx) hcl rfl))
          repeat (first
            | (refine groL_pure rfl rfl ?_; intro K hK; go_simp; refine hK _ ?_; clear hK K)
            | (refine groL_read rfl rfl ?_; intro K S hS hK; go_simp; refine hK _ ?_; clear hK K hS S)
            | (refine groL_read rfl rfl ?_; intro K S hS hK; go_simp; refine ⟨hS _ ?_, hK _ ?_⟩; (clear hK K hS S; intro w' hx'; have hce := ext_some hx'; go_simp); clear hK K hS S)
            | (refine groL_write rfl rfl ?_; intro K hK; go_simp; refine hK _ _ ?_; clear hK K))
          refine groL_grow rfl rfl ?_
          intro K hK
          go_simp
          (refine HEQ.out.mono ?_; rintro e wv ⟨rfl, hxv⟩)
          go_simp
          refine hK _ _ ⟨hxv, ?_⟩
          clear hK K
          repeat (first
            | (refine groL_pure rfl rfl ?_; intro K hK; go_simp; refine hK _ ?_; clear hK K)
            | (refine groL_read rfl rfl ?_; intro K S hS hK; go_simp; refine hK _ ?_; clear hK K hS S)
            | (refine groL_read rfl rfl ?_; intro K S hS hK; go_simp; refine ⟨hS _ ?_, hK _ ?_⟩; (clear hK K hS S; intro w' hx'; have hce := ext_some hx'; go_simp); clear hK K hS S)
            | (refine groL_write rfl rfl ?_; intro K hK; go_simp; refine hK _ _ ?_; clear hK K))
          refine groL_nil ?_
          go_wp2_with fail
          go_ret
          exact ⟨rfl, ((HXG.out.trans hxy).trans hxx).trans hxv⟩
        · have hne : ((j : Int) == 6) = false := by simp; omega
          obtain ⟨b2, o2, rfl, hcell⟩ := (H2.out.ext HXr.out).atD hlt
          generalize N.getD j 0 = q at hcell
          by_cases hout : q < 0 ∨ (bl.length : Int) < q
          · have hcon := dread_out (.slice au9 bl.length cu9) bl q wr HIr.out hout
            try unfold dv at hcon
            try unfold nv at hcon
            try unfold dcells at hcon
            try unfold ncells at hcon
            try unfold nsA at hcon
            try unfold ofV at hcon
            try unfold noV at hcon
            try unfold noN at hcon
            try unfold hv at hcon
            try dsimp only at hcon
            have HRD := Lib.hid hcon
            clear hcon
            go_wp2_with fail
            refine HRD.out.mono ?_
            rintro e wb ⟨rfl, hxb⟩
            have hbn : RowAt (wb.alloc (.cells #[.slice none 0 0, .slice none 0 0, .slice none 0 0, .slice none 0 0, .slice none 0 0, .slice none 0 0, .slice none 0 0, .slice none 0 0, .slice none 0 0, .slice none 0 0] 28)) wb.heap.size 28 (dcells noV) := RowAt.new _ _ _
            have HBN := Lib.hid hbn
            have HXB := Lib.hid (HX9.out.trans (hxb.trans (Ext.alloc wb (.cells #[.slice none 0 0, .slice none 0 0, .slice none 0 0, .slice none 0 0, .slice none 0 0, .slice none 0 0, .slice none 0 0, .slice none 0 0, .slice none 0 0, .slice none 0 0] 28))))
            obtain ⟨z, hz⟩ : ∃ z, wb.heap.size = z := ⟨_, rfl⟩
            clear hbn hxb HRD
            go_upto_region 17 with fail
            generalize wb.alloc (.cells #[.slice none 0 0, .slice none 0 0, .slice none 0 0, .slice none 0 0, .slice none 0 0, .slice none 0 0, .slice none 0 0, .slice none 0 0, .slice none 0 0, .slice none 0 0] 28) = wc at *
            rw [hz] at *
            clear hz
            obtain ⟨c0, c1, c2, c3, c4, c5, c6, c7, c8, c9⟩ := RowAt.facts10 (vs := noV) HBN.out
            unfold noV at c0 c1 c2 c3 c4 c5 c6 c7 c8 c9
            try dsimp only at c0 c1 c2 c3 c4 c5 c6 c7 c8 c9
            have hcon := none_any wc
            try unfold dv at hcon
            try unfold nv at hcon
            try unfold dcells at hcon
            try unfold ncells at hcon
            try unfold nsA at hcon
            try unfold ofV at hcon
            try unfold noV at hcon
            try unfold noN at hcon
            try unfold hv at hcon
            try dsimp only at hcon
            have HNO := Lib.hid hcon
            clear hcon
            by_cases hq0 : q < 0
            · go_wp2_with fail
              refine HNO.out.mono ?_
              rintro e wd ⟨rfl, hxd⟩
              clear c0 c1 c2 c3 c4 c5 c6 c7 c8 c9
              go_wp2_with fail
              go_roundg (N.length - (j + 1))
              case measure => have := Hg.out; omega
              case rel => exact ⟨j + 1, by omega, rfl, by go_num, HXB.out.trans hxd⟩
            · have hq1 : (bl.length : Int) < q := by omega
              go_wp2_with fail
              refine HNO.out.mono ?_
              rintro e wd ⟨rfl, hxd⟩
              clear c0 c1 c2 c3 c4 c5 c6 c7 c8 c9
              go_wp2_with fail
              go_roundg (N.length - (j + 1))
              case measure => have := Hg.out; omega
              case rel => exact ⟨j + 1, by omega, rfl, by go_num, HXB.out.trans hxd⟩
          · obtain ⟨p, rfl⟩ := Int.eq_ofNat_of_zero_le (show 0 ≤ q by omega)
            have hpl : p ≤ bl.length := by omega
            have hq0 : decide ((p : Int) < 0) = false := decide_eq_false (by omega)
            have hq1 : decide (bl.length < p) = false := decide_eq_false (by omega)
            cases hrt : readTo bl p 5 with
            | none =>
              have hcon := dread_none HBL.out HIr.out hpl (by omega) hrt
              try unfold dv at hcon
              try unfold nv at hcon
              try unfold dcells at hcon
              try unfold ncells at hcon
              try unfold nsA at hcon
              try unfold ofV at hcon
              try unfold noV at hcon
              try unfold noN at hcon
              try unfold hv at hcon
              try dsimp only at hcon
              have HRD := Lib.hid hcon
              clear hcon
              go_wp2_with fail
              refine HRD.out.mono ?_
              rintro e wb ⟨rfl, hxb⟩
              have hbn : RowAt (wb.alloc (.cells #[.slice none 0 0, .slice none 0 0, .slice none 0 0, .slice none 0 0, .slice none 0 0, .slice none 0 0, .slice none 0 0, .slice none 0 0, .slice none 0 0, .slice none 0 0] 28)) wb.heap.size 28 (dcells noV) := RowAt.new _ _ _
              have HBN := Lib.hid hbn
              have HIB := Lib.hid (HIr.out.ext (hxb.trans (Ext.alloc wb (.cells #[.slice none 0 0, .slice none 0 0, .slice none 0 0, .slice none 0 0, .slice none 0 0, .slice none 0 0, .slice none 0 0, .slice none 0 0, .slice none 0 0, .slice none 0 0] 28))))
              have HXB := Lib.hid (HX9.out.trans (hxb.trans (Ext.alloc wb (.cells #[.slice none 0 0, .slice none 0 0, .slice none 0 0, .slice none 0 0, .slice none 0 0, .slice none 0 0, .slice none 0 0, .slice none 0 0, .slice none 0 0, .slice none 0 0] 28))))
              obtain ⟨z, hz⟩ : ∃ z, wb.heap.size = z := ⟨_, rfl⟩
              clear hbn hxb HRD
              go_upto_region 17 with fail
              generalize wb.alloc (.cells #[.slice none 0 0, .slice none 0 0, .slice none 0 0, .slice none 0 0, .slice none 0 0, .slice none 0 0, .slice none 0 0, .slice none 0 0, .slice none 0 0, .slice none 0 0] 28) = wc at *
              rw [hz] at *
              clear hz
              have hcon := refRead_none HBL.out HIB.out hpl (by omega) hrt
              try unfold dv at hcon
              try unfold nv at hcon
              try unfold dcells at hcon
              try unfold ncells at hcon
              try unfold nsA at hcon
              try unfold ofV at hcon
              try unfold noV at hcon
              try unfold noN at hcon
              try unfold hv at hcon
              try dsimp only at hcon
              have HRR := Lib.hid hcon
              clear hcon
              go_wp2_with fail
              refine HRR.out.mono ?_
              rintro e we ⟨rfl, hxe⟩
              have hxf := hxe.trans (Ext.alloc we (.cells #[.slice none 0 0, .slice none 0 0, .slice none 0 0, .slice none 0 0, .slice none 0 0] 37))
              have HXF := Lib.hid (HXB.out.trans hxf)
              have HBF := Lib.hid (HBN.out.ext hxf)
              clear hxf hxe HRR HBN HXB
              go_upto_region 21 with fail
              generalize we.alloc (.cells #[.slice none 0 0, .slice none 0 0, .slice none 0 0, .slice none 0 0, .slice none 0 0] 37) = wf at *
              refine wp_region_gro groB21 [0, 1, 2, 3, 4, 5, 6, 7, 8, 9, 10, 11, 12, 13, 14, 15, 16, 17, 18, 19, 20, 21, 22, 23, 24, 25, 26, 27, 28, 29, 31, 30, 32, 33, 34, 35, 36] hmo (by kernel_rfl) rfl (by kernel_rfl) (fun _ _ _ _ _ h => h) ?_
              have hdr : Ext wf wf.drew := Ext.drewN wf 1
              have HXG := Lib.hid (HXF.out.trans hdr)
              have HBG := Lib.hid (HBF.out.ext hdr)
              clear hdr HXF HBF
              generalize wf.drew = wg at *
              obtain ⟨c0, c1, c2, c3, c4, c5, c6, c7, c8, c9⟩ := RowAt.facts10 (vs := noV) HBG.out
              unfold noV at c0 c1 c2 c3 c4 c5 c6 c7 c8 c9
              try dsimp only at c0 c1 c2 c3 c4 c5 c6 c7 c8 c9
              have hcon := none_any wg
              try unfold dv at hcon
              try unfold nv at hcon
              try unfold dcells at hcon
              try unfold ncells at hcon
              try unfold nsA at hcon
              try unfold ofV at hcon
              try unfold noV at hcon
              try unfold noN at hcon
              try unfold hv at hcon
              try dsimp only at hcon
              have HNO := Lib.hid hcon
              clear hcon
              repeat (first
                | (refine groL_pure rfl rfl ?_; intro K hK; go_simp; refine hK _ ?_; clear hK K)
                | (refine groL_read rfl rfl ?_; intro K S hS hK; go_simp; refine hK _ ?_; clear hK K hS S)
                | (refine groL_read rfl rfl ?_; intro K S hS hK; go_simp; refine ⟨hS _ ?_, hK _ ?_⟩; (clear hK K hS S; intro w' hx'; have hce := ext_some hx'; go_simp); clear hK K hS S)
                | (refine groL_write rfl rfl ?_; intro K hK; go_simp; refine hK _ _ ?_; clear hK K))
              refine groL_grow rfl rfl ?_
              intro K hK
              go_simp
              (refine HNO.out.mono ?_; rintro e wh ⟨rfl, hxh⟩)
              go_simp
              refine hK _ _ ⟨hxh, ?_⟩
              clear hK K
              clear c0 c1 c2 c3 c4 c5 c6 c7 c8 c9
              repeat (first
                | (refine groL_pure rfl rfl ?_; intro K hK; go_simp; refine hK _ ?_; clear hK K)
                | (refine groL_read rfl rfl ?_; intro K S hS hK; go_simp; refine hK _ ?_; clear hK K hS S)
                | (refine groL_read rfl rfl ?_; intro K S hS hK; go_simp; refine ⟨hS _ ?_, hK _ ?_⟩; (clear hK K hS S; intro w' hx'; have hce := ext_some hx'; go_simp); clear hK K hS S)
                | (refine groL_grow rfl rfl ?_; intro K hK; go_simp; refine hK _ _ ⟨Ext.refl _, ?_⟩; clear hK K))
              refine groL_nil ?_
              go_wp2_with fail
              go_roundg (N.length - (j + 1))
              case measure => have := Hg.out; omega
              case rel => exact ⟨j + 1, by omega, rfl, by go_num, HXG.out.trans hxh⟩
            | some r =>
              obtain ⟨M, q2⟩ := r
              have hcon := dread_ok HBL.out HIr.out hpl (by omega) hrt
              try unfold dv at hcon
              try unfold nv at hcon
              try unfold dcells at hcon
              try unfold ncells at hcon
              try unfold nsA at hcon
              try unfold ofV at hcon
              try unfold noV at hcon
              try unfold noN at hcon
              try unfold hv at hcon
              try dsimp only at hcon
              have HRD := Lib.hid hcon
              clear hcon
              go_wp2_with fail
              refine HRD.out.mono ?_
              rintro e wb ⟨C, DC, rfl, howC, hokC, hNC, hxb⟩
              have hbn : RowAt (wb.alloc (.cells #[Value.slice (C 0).1 (C 0).2.1 (C 0).2.2.1, .slice (C 0).2.2.2.1 (C 0).2.2.2.2.1 (C 0).2.2.2.2.2, Value.slice (C 1).1 (C 1).2.1 (C 1).2.2.1, .slice (C 1).2.2.2.1 (C 1).2.2.2.2.1 (C 1).2.2.2.2.2, Value.slice (C 2).1 (C 2).2.1 (C 2).2.2.1, .slice (C 2).2.2.2.1 (C 2).2.2.2.2.1 (C 2).2.2.2.2.2, Value.slice (C 3).1 (C 3).2.1 (C 3).2.2.1, .slice (C 3).2.2.2.1 (C 3).2.2.2.2.1 (C 3).2.2.2.2.2, Value.slice (C 4).1 (C 4).2.1 (C 4).2.2.1, .slice (C 4).2.2.2.1 (C 4).2.2.2.2.1 (C 4).2.2.2.2.2] 28)) wb.heap.size 28 (dcells (hv C)) := RowAt.new _ _ _
              have HBN := Lib.hid hbn
              have HVC := Lib.hid (howC.view.ext (Ext.alloc wb (.cells #[Value.slice (C 0).1 (C 0).2.1 (C 0).2.2.1, .slice (C 0).2.2.2.1 (C 0).2.2.2.2.1 (C 0).2.2.2.2.2, Value.slice (C 1).1 (C 1).2.1 (C 1).2.2.1, .slice (C 1).2.2.2.1 (C 1).2.2.2.2.1 (C 1).2.2.2.2.2, Value.slice (C 2).1 (C 2).2.1 (C 2).2.2.1, .slice (C 2).2.2.2.1 (C 2).2.2.2.2.1 (C 2).2.2.2.2.2, Value.slice (C 3).1 (C 3).2.1 (C 3).2.2.1, .slice (C 3).2.2.2.1 (C 3).2.2.2.2.1 (C 3).2.2.2.2.2, Value.slice (C 4).1 (C 4).2.1 (C 4).2.2.1, .slice (C 4).2.2.2.1 (C 4).2.2.2.2.1 (C 4).2.2.2.2.2] 28)))
              have HSC : Hid (DicS DC) := Lib.hid (hokC.sizes (fun i hi => (hNC i hi).2))
              have HNC : Hid (∀ i, i < 5 → ofD DC i = M i) := Lib.hid (fun i hi => (hNC i hi).1)
              have HOC := Lib.hid hokC
              have HIB := Lib.hid (HIr.out.ext (hxb.trans (Ext.alloc wb (.cells #[Value.slice (C 0).1 (C 0).2.1 (C 0).2.2.1, .slice (C 0).2.2.2.1 (C 0).2.2.2.2.1 (C 0).2.2.2.2.2, Value.slice (C 1).1 (C 1).2.1 (C 1).2.2.1, .slice (C 1).2.2.2.1 (C 1).2.2.2.2.1 (C 1).2.2.2.2.2, Value.slice (C 2).1 (C 2).2.1 (C 2).2.2.1, .slice (C 2).2.2.2.1 (C 2).2.2.2.2.1 (C 2).2.2.2.2.2, Value.slice (C 3).1 (C 3).2.1 (C 3).2.2.1, .slice (C 3).2.2.2.1 (C 3).2.2.2.2.1 (C 3).2.2.2.2.2, Value.slice (C 4).1 (C 4).2.1 (C 4).2.2.1, .slice (C 4).2.2.2.1 (C 4).2.2.2.2.1 (C 4).2.2.2.2.2] 28))))
              have HXB := Lib.hid (HX9.out.trans (hxb.trans (Ext.alloc wb (.cells #[Value.slice (C 0).1 (C 0).2.1 (C 0).2.2.1, .slice (C 0).2.2.2.1 (C 0).2.2.2.2.1 (C 0).2.2.2.2.2, Value.slice (C 1).1 (C 1).2.1 (C 1).2.2.1, .slice (C 1).2.2.2.1 (C 1).2.2.2.2.1 (C 1).2.2.2.2.2, Value.slice (C 2).1 (C 2).2.1 (C 2).2.2.1, .slice (C 2).2.2.2.1 (C 2).2.2.2.2.1 (C 2).2.2.2.2.2, Value.slice (C 3).1 (C 3).2.1 (C 3).2.2.1, .slice (C 3).2.2.2.1 (C 3).2.2.2.2.1 (C 3).2.2.2.2.2, Value.slice (C 4).1 (C 4).2.1 (C 4).2.2.1, .slice (C 4).2.2.2.1 (C 4).2.2.2.2.1 (C 4).2.2.2.2.2] 28))))
              obtain ⟨z, hz⟩ : ∃ z, wb.heap.size = z := ⟨_, rfl⟩
              clear hbn hxb HRD howC hokC hNC
              go_upto_region 17 with fail
              generalize wb.alloc (.cells #[Value.slice (C 0).1 (C 0).2.1 (C 0).2.2.1, .slice (C 0).2.2.2.1 (C 0).2.2.2.2.1 (C 0).2.2.2.2.2, Value.slice (C 1).1 (C 1).2.1 (C 1).2.2.1, .slice (C 1).2.2.2.1 (C 1).2.2.2.2.1 (C 1).2.2.2.2.2, Value.slice (C 2).1 (C 2).2.1 (C 2).2.2.1, .slice (C 2).2.2.2.1 (C 2).2.2.2.2.1 (C 2).2.2.2.2.2, Value.slice (C 3).1 (C 3).2.1 (C 3).2.2.1, .slice (C 3).2.2.2.1 (C 3).2.2.2.2.1 (C 3).2.2.2.2.2, Value.slice (C 4).1 (C 4).2.1 (C 4).2.2.1, .slice (C 4).2.2.2.1 (C 4).2.2.2.2.1 (C 4).2.2.2.2.2] 28) = wc at *
              rw [hz] at *
              clear hz
              have hcon := refRead_ok HBL.out HIB.out hpl (by omega) hrt
              try unfold dv at hcon
              try unfold nv at hcon
              try unfold dcells at hcon
              try unfold ncells at hcon
              try unfold nsA at hcon
              try unfold ofV at hcon
              try unfold noV at hcon
              try unfold noN at hcon
              try unfold hv at hcon
              try dsimp only at hcon
              have HRR := Lib.hid hcon
              clear hcon
              go_wp2_with fail
              refine HRR.out.mono ?_
              rintro e we ⟨E, rfl, hnE, hxe⟩
              have hxf := hxe.trans (Ext.alloc we (.cells #[Value.slice (E 0).1 (M 0).length (E 0).2, Value.slice (E 1).1 (M 1).length (E 1).2, Value.slice (E 2).1 (M 2).length (E 2).2, Value.slice (E 3).1 (M 3).length (E 3).2, Value.slice (E 4).1 (M 4).length (E 4).2] 37))
              have HNE := Lib.hid (NamV.ext hnE (Ext.alloc we (.cells #[Value.slice (E 0).1 (M 0).length (E 0).2, Value.slice (E 1).1 (M 1).length (E 1).2, Value.slice (E 2).1 (M 2).length (E 2).2, Value.slice (E 3).1 (M 3).length (E 3).2, Value.slice (E 4).1 (M 4).length (E 4).2] 37)))
              have hbm : RowAt (we.alloc (.cells #[Value.slice (E 0).1 (M 0).length (E 0).2, Value.slice (E 1).1 (M 1).length (E 1).2, Value.slice (E 2).1 (M 2).length (E 2).2, Value.slice (E 3).1 (M 3).length (E 3).2, Value.slice (E 4).1 (M 4).length (E 4).2] 37)) we.heap.size 37 (ncells (nsA E M)) := RowAt.new _ _ _
              have HBM := Lib.hid hbm
              have HXF := Lib.hid (HXB.out.trans hxf)
              have HBF := Lib.hid (HBN.out.ext hxf)
              have HVF := Lib.hid (HVC.out.ext hxf)
              obtain ⟨x, hx⟩ : ∃ x, we.heap.size = x := ⟨_, rfl⟩
              clear hxf hxe HRR HBN HXB HVC hbm hnE
              go_upto_region 21 with fail
              generalize we.alloc (.cells #[Value.slice (E 0).1 (M 0).length (E 0).2, Value.slice (E 1).1 (M 1).length (E 1).2, Value.slice (E 2).1 (M 2).length (E 2).2, Value.slice (E 3).1 (M 3).length (E 3).2, Value.slice (E 4).1 (M 4).length (E 4).2] 37) = wf at *
              rw [hx] at *
              clear hx
              refine wp_region_gro groB21 [0, 1, 2, 3, 4, 5, 6, 7, 8, 9, 10, 11, 12, 13, 14, 15, 16, 17, 18, 19, 20, 21, 22, 23, 24, 25, 26, 27, 28, 29, 31, 30, 32, 33, 34, 35, 36] hmo (by kernel_rfl) rfl (by kernel_rfl) (fun _ _ _ _ _ h => h) ?_
              have hdr : Ext wf wf.drew := Ext.drewN wf 1
              have HXG := Lib.hid (HXF.out.trans hdr)
              have HBG := Lib.hid (HBF.out.ext hdr)
              have HMG := Lib.hid (HBM.out.ext hdr)
              have HVG := Lib.hid (HVF.out.ext hdr)
              have HNG := Lib.hid (NamV.ext HNE.out hdr)
              clear hdr HXF HBF HBM HVF HNE
              generalize wf.drew = wg at *
              obtain ⟨c0, c1, c2, c3, c4, c5, c6, c7, c8, c9⟩ := RowAt.facts10 (vs := hv C) (HBG.out)
              unfold hv at c0 c1 c2 c3 c4 c5 c6 c7 c8 c9
              dsimp only at c0 c1 c2 c3 c4 c5 c6 c7 c8 c9
              have hcon := dright_yes (hv C) DC wg HVG.out HSC.out HOC.out
              try unfold dv at hcon
              try unfold nv at hcon
              try unfold dcells at hcon
              try unfold ncells at hcon
              try unfold nsA at hcon
              try unfold ofV at hcon
              try unfold noV at hcon
              try unfold noN at hcon
              try unfold hv at hcon
              try dsimp only at hcon
              have HNO := Lib.hid hcon
              clear hcon
              repeat (first
                | (refine groL_pure rfl rfl ?_; intro K hK; go_simp; refine hK _ ?_; clear hK K)
                | (refine groL_read rfl rfl ?_; intro K S hS hK; go_simp; refine hK _ ?_; clear hK K hS S)
                | (refine groL_read rfl rfl ?_; intro K S hS hK; go_simp; refine ⟨hS _ ?_, hK _ ?_⟩; (clear hK K hS S; intro w' hx'; have hce := ext_some hx'; go_simp); clear hK K hS S)
                | (refine groL_write rfl rfl ?_; intro K hK; go_simp; refine hK _ _ ?_; clear hK K))
              refine groL_grow rfl rfl ?_
              intro K hK
              go_simp
              refine hK _ _ ⟨Ext.refl _, ?_⟩
              clear hK K
              repeat (first
                | (refine groL_pure rfl rfl ?_; intro K hK; go_simp; refine hK _ ?_; clear hK K)
                | (refine groL_read rfl rfl ?_; intro K S hS hK; go_simp; refine hK _ ?_; clear hK K hS S)
                | (refine groL_read rfl rfl ?_; intro K S hS hK; go_simp; refine ⟨hS _ ?_, hK _ ?_⟩; (clear hK K hS S; intro w' hx'; have hce := ext_some hx'; go_simp); clear hK K hS S)
                | (refine groL_write rfl rfl ?_; intro K hK; go_simp; refine hK _ _ ?_; clear hK K))
              refine groL_grow rfl rfl ?_
              intro K hK
              go_simp
              (refine HNO.out.mono ?_; rintro e wh ⟨rfl, hxh⟩)
              go_simp
              refine hK _ _ ⟨hxh, ?_⟩
              clear hK K
              clear c0 c1 c2 c3 c4 c5 c6 c7 c8 c9
              obtain ⟨c0, c1, c2, c3, c4, c5, c6, c7, c8, c9⟩ := RowAt.facts10 (vs := hv C) ((HBG.out.ext hxh))
              unfold hv at c0 c1 c2 c3 c4 c5 c6 c7 c8 c9
              dsimp only at c0 c1 c2 c3 c4 c5 c6 c7 c8 c9
              obtain ⟨n0, n1, n2, n3, n4⟩ := RowAt.facts5 (ns := nsA E M) (HMG.out.ext hxh)
              simp only [nsA] at n0 n1 n2 n3 n4
              have hcon := of_hv C wh
              try unfold dv at hcon
              try unfold nv at hcon
              try unfold dcells at hcon
              try unfold ncells at hcon
              try unfold nsA at hcon
              try unfold ofV at hcon
              try unfold noV at hcon
              try unfold noN at hcon
              try unfold hv at hcon
              try dsimp only at hcon
              have HOF := Lib.hid hcon
              clear hcon
              repeat (first
                | (refine groL_pure rfl rfl ?_; intro K hK; go_simp; refine hK _ ?_; clear hK K)
                | (refine groL_read rfl rfl ?_; intro K S hS hK; go_simp; refine hK _ ?_; clear hK K hS S)
                | (refine groL_read rfl rfl ?_; intro K S hS hK; go_simp; refine ⟨hS _ ?_, hK _ ?_⟩; (clear hK K hS S; intro w' hx'; have hce := ext_some hx'; go_simp); clear hK K hS S)
                | (refine groL_write rfl rfl ?_; intro K hK; go_simp; refine hK _ _ ?_; clear hK K))
              refine groL_grow rfl rfl ?_
              intro K hK
              go_simp
              (refine HOF.out.mono ?_; rintro e wi ⟨rfl, hxi⟩)
              go_simp
              refine hK _ _ ⟨hxi, ?_⟩
              clear hK K
              have hcon := refSame_yes (ofV (hv C)) (nsA E M) (ofD DC) M wi (DicV.names (HVG.out.ext (hxh.trans hxi))) (NamV.ext HNG.out (hxh.trans hxi)) HNC.out
              try unfold dv at hcon
              try unfold nv at hcon
              try unfold dcells at hcon
              try unfold ncells at hcon
              try unfold nsA at hcon
              try unfold ofV at hcon
              try unfold noV at hcon
              try unfold noN at hcon
              try unfold hv at hcon
              try dsimp only at hcon
              have HSM := Lib.hid hcon
              clear hcon
              clear c0 c1 c2 c3 c4 c5 c6 c7 c8 c9
              clear n0 n1 n2 n3 n4
              repeat (first
                | (refine groL_pure rfl rfl ?_; intro K hK; go_simp; refine hK _ ?_; clear hK K)
                | (refine groL_read rfl rfl ?_; intro K S hS hK; go_simp; refine hK _ ?_; clear hK K hS S)
                | (refine groL_read rfl rfl ?_; intro K S hS hK; go_simp; refine ⟨hS _ ?_, hK _ ?_⟩; (clear hK K hS S; intro w' hx'; have hce := ext_some hx'; go_simp); clear hK K hS S)
                | (refine groL_write rfl rfl ?_; intro K hK; go_simp; refine hK _ _ ?_; clear hK K))
              refine groL_grow rfl rfl ?_
              intro K hK
              go_simp
              (refine HSM.out.mono ?_; rintro e wj ⟨rfl, hxj⟩)
              go_simp
              refine hK _ _ ⟨hxj, ?_⟩
              clear hK K
              repeat (first
                | (refine groL_pure rfl rfl ?_; intro K hK; go_simp; refine hK _ ?_; clear hK K)
                | (refine groL_read rfl rfl ?_; intro K S hS hK; go_simp; refine hK _ ?_; clear hK K hS S)
                | (refine groL_read rfl rfl ?_; intro K S hS hK; go_simp; refine ⟨hS _ ?_, hK _ ?_⟩; (clear hK K hS S; intro w' hx'; have hce := ext_some hx'; go_simp); clear hK K hS S)
                | (refine groL_write rfl rfl ?_; intro K hK; go_simp; refine hK _ _ ?_; clear hK K))
              refine groL_nil ?_
              go_wp2_with fail
              go_roundg (N.length - (j + 1))
              case measure => have := Hg.out; omega
              case rel => exact ⟨j + 1, by omega, rfl, by go_num, ((HXG.out.trans hxh).trans hxi).trans hxj⟩
      · go_upto_region 24 with fail
        refine wp_region_gro groB24 [0, 1, 2, 3, 4, 5, 6, 7, 8, 9, 10, 11, 12] hmo (by kernel_rfl) rfl (by kernel_rfl) (fun _ _ _ _ _ h => h) ?_
        have hdr : Ext wr wr.drew := Ext.drewN wr 1
        have HXG := Lib.hid (HXr.out.trans hdr)
        have HBG := Lib.hid (HBr.out.ext hdr)
        have HBBG := Lib.hid (HBBr.out.ext hdr)
        have HVG := Lib.hid (HVBr.out.ext hdr)
        have HIG := Lib.hid (HIr.out.ext hdr)
        clear hdr
        generalize wr.drew = wz at *
        obtain ⟨c0, c1, c2, c3, c4, c5, c6, c7, c8, c9⟩ := RowAt.facts10 (vs := hv B) (HBBG.out)
        unfold hv at c0 c1 c2 c3 c4 c5 c6 c7 c8 c9
        dsimp only at c0 c1 c2 c3 c4 c5 c6 c7 c8 c9
        obtain ⟨e0, e1, e2, e3, e4, e5, e6, e7, e8, e9⟩ := RowAt.facts10 (vs := hv A) (HBG.out)
        unfold hv at e0 e1 e2 e3 e4 e5 e6 e7 e8 e9
        dsimp only at e0 e1 e2 e3 e4 e5 e6 e7 e8 e9
        have hcon := lawOwn_hv A D wz (HV.out.ext HXG.out)
        try unfold dv at hcon
        try unfold nv at hcon
        try unfold dcells at hcon
        try unfold ncells at hcon
        try unfold nsA at hcon
        try unfold ofV at hcon
        try unfold noV at hcon
        try unfold noN at hcon
        try unfold hv at hcon
        try dsimp only at hcon
        have HOW2 := Lib.hid hcon
        clear hcon
        have hblc : bl.length ≤ cap1 := by have := HBE.out; omega
        repeat (first
          | (refine groL_pure rfl rfl ?_; intro K hK; go_simp; refine hK _ ?_; clear hK K)
          | (refine groL_read rfl rfl ?_; intro K S hS hK; go_simp; refine hK _ ?_; clear hK K hS S)
          | (refine groL_read rfl rfl ?_; intro K S hS hK; go_simp; refine ⟨hS _ ?_, hK _ ?_⟩; (clear hK K hS S; intro w' hx'; have hce := ext_some hx'; go_simp); clear hK K hS S)
          | (refine groL_write rfl rfl ?_; intro K hK; go_simp; refine hK _ _ ?_; clear hK K))
        refine groL_grow rfl rfl ?_
        intro K hK
        go_simp
        (refine HOW2.out.mono ?_; rintro e wy ⟨F, rfl, howF, hxy⟩)
        go_simp
        refine hK _ _ ⟨hxy, ?_⟩
        clear hK K
        clear c0 c1 c2 c3 c4 c5 c6 c7 c8 c9
        clear e0 e1 e2 e3 e4 e5 e6 e7 e8 e9
        have hcon := lawSame_yes (hv B) (hv F) (cutD D) (cutD D) wy (HVG.out.ext hxy) howF.view (fun _ _ => rfl)
        try unfold dv at hcon
        try unfold nv at hcon
        try unfold dcells at hcon
        try unfold ncells at hcon
        try unfold nsA at hcon
        try unfold ofV at hcon
        try unfold noV at hcon
        try unfold noN at hcon
        try unfold hv at hcon
        try dsimp only at hcon
        have HSM2 := Lib.hid hcon
        clear hcon
        repeat (first
          | (refine groL_pure rfl rfl ?_; intro K hK; go_simp; refine hK _ ?_; clear hK K)
          | (refine groL_read rfl rfl ?_; intro K S hS hK; go_simp; refine hK _ ?_; clear hK K hS S)
          | (refine groL_read rfl rfl ?_; intro K S hS hK; go_simp; refine ⟨hS _ ?_, hK _ ?_⟩; (clear hK K hS S; intro w' hx'; have hce := ext_some hx'; go_simp); clear hK K hS S)
          | (refine groL_write rfl rfl ?_; intro K hK; go_simp; refine hK _ _ ?_; clear hK K))
        refine groL_grow rfl rfl ?_
        intro K hK
        go_simp
        (refine HSM2.out.mono ?_; rintro e wx ⟨rfl, hxx⟩)
        go_simp
        refine hK _ _ ⟨hxx, ?_⟩
        clear hK K
        have hcl : Ints wx .u8 (.slice a1 bl.length cap1) bl := by have h := (HCT.out.ext (HXG.out.trans hxy)).ext hxx; rw [← HBE.out] at h; exact h
        have HEQ := Lib.hid (ext_of_drew (equalB_yes _ _ bl bl wx ((HIG.out.ext hxy).ext hxx) hcl rfl))
        repeat (first
          | (refine groL_pure rfl rfl ?_; intro K hK; go_simp; refine hK _ ?_; clear hK K)
          | (refine groL_read rfl rfl ?_; intro K S hS hK; go_simp; refine hK _ ?_; clear hK K hS S)
          | (refine groL_read rfl rfl ?_; intro K S hS hK; go_simp; refine ⟨hS _ ?_, hK _ ?_⟩; (clear hK K hS S; intro w' hx'; have hce := ext_some hx'; go_simp); clear hK K hS S)
          | (refine groL_write rfl rfl ?_; intro K hK; go_simp; refine hK _ _ ?_; clear hK K))
        refine groL_grow rfl rfl ?_
        intro K hK
        go_simp
        (refine HEQ.out.mono ?_; rintro e wv ⟨rfl, hxv⟩)
        go_simp
        refine hK _ _ ⟨hxv, ?_⟩
        clear hK K
        repeat (first
          | (refine groL_pure rfl rfl ?_; intro K hK; go_simp; refine hK _ ?_; clear hK K)
          | (refine groL_read rfl rfl ?_; intro K S hS hK; go_simp; refine hK _ ?_; clear hK K hS S)
          | (refine groL_read rfl rfl ?_; intro K S hS hK; go_simp; refine ⟨hS _ ?_, hK _ ?_⟩; (clear hK K hS S; intro w' hx'; have hce := ext_some hx'; go_simp); clear hK K hS S)
          | (refine groL_write rfl rfl ?_; intro K hK; go_simp; refine hK _ _ ?_; clear hK K))
        refine groL_nil ?_
        go_wp2_with fail
        go_ret
        exact ⟨rfl, ((HXG.out.trans hxy).trans hxx).trans hxv⟩
end Go.Proofs.Ytogoejlbdbapoaa
