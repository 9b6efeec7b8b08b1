/- DictMay: the walk. -/
import Derived.Test.YtogoejlbdbapoaaDicLw
import Derived.Test.YtogoejlbdbapoaaDicPy
namespace Go.Proofs.Ytogoejlbdbapoaa
set_option maxRecDepth 100000
set_option maxHeartbeats 2000000
set_option linter.unusedSimpArgs false
open Go.RowKit Go.Shelf Go.Sort
attribute [local go_sem] Oper.semAt_some wide_fn wide_depth
set_option linter.unusedVariables false

/-- A dictionary of the call's own. -/
def OwnU (w0 : World) (D : Dic) (W : World) (c : Value) : Prop := ∃ B : Heads, c = dv (hv B) ∧ DicOwn w0.heap.size W (hv B) (cutD D)
theorem OwnU.firm (w0 : World) (D : Dic) : Firm 28 28 (OwnU w0 D) :=
  ⟨fun hx ⟨B, e, h⟩ => ⟨B, e, DicOwn.ext h hx⟩, fun hr ht ⟨B, e, h⟩ => ⟨B, e, fun i hi => by
    obtain ⟨a, n, c, b, m, d, e, h1, h2⟩ := h i hi
    have hs : (9 : TypeId) ≠ 28 := by decide
    have hn : (3 : TypeId) ≠ 28 := by decide
    rcases ht with rfl | rfl
    · exact ⟨a, n, c, b, m, d, e, own_setC_ne h1 hr hs _ _, own_setC_ne h2 hr hn _ _⟩
    · exact ⟨a, n, c, b, m, d, e, own_setC_ne h1 hr hs _ _, own_setC_ne h2 hr hn _ _⟩⟩⟩
theorem own_u (w0 : World) (A : Heads) (D : Dic) (W : World) (hx : Ext w0 W) (hV : DicV w0 (hv A) D) :
    Calls Try.prog 11 #[dv (hv A)] W fun e w' => ∃ u, e = .returned u ∧ OwnU w0 D w' u ∧ Ext W w' :=
  (lawOwn_hv A D W (hV.ext hx)).mono fun e w' ⟨B, he, ho, hx'⟩ => ⟨_, he, ⟨B, rfl, DicOwn.base ho hx.size⟩, hx'⟩
def depM : Nat → List Nat
  | 1 => [0]
  | 3 => [2]
  | 6 => [1, 4]
  | 7 => [3, 5]
  | _ => []
theorem dnew_hv (w : World) : Calls Try.prog 19 #[] w fun e w' => ∃ N : Heads, e = .returned (dv (hv N)) ∧ DicOwn w.heap.size w' (hv N) newD ∧ Ext w w' :=
  (dnew_any w).mono fun e w' ⟨us, he, ho, hx⟩ => by
    obtain ⟨N, hA1, hA2⟩ := heads ho.view.shape
    exact ⟨N, by rw [he, show dv us = dv (hv N) from by unfold dv; rw [hA2]], fun i hi => by rw [← hA1 i hi]; exact ho i hi, hx⟩
def groM6 : Nat → Gro
  | 13 => .read
  | 14 => .read
  | 15 => .grow
  | 16 => .read
  | 17 => .grow
  | 18 => .read
  | 19 => .grow
  | 20 => .grow
  | _ => .pure
def groM20 : Nat → Gro
  | 0 => .read
  | 1 => .grow
  | 3 => .read
  | 4 => .grow
  | 6 => .grow
  | 9 => .read
  | 10 => .read
  | 11 => .grow
  | 12 => .grow
  | _ => .pure
set_option maxRecDepth 100000 in
set_option maxHeartbeats 4000000 in
theorem dmay_walk (v0 : Value) (D : Dic) (v1 : Value) (D2 : Dic) (v2 : Value) (L : List ByteArray) (w : World)
    (h0 : ∃ vs, v0 = dv vs ∧ DicV w vs D ∧ ∀ i, i < 5 → ∀ s ∈ (D i).1, s.size ≤ 9223372036854775807) (h1 : ∃ vs, v1 = dv vs ∧ DicV w vs D2 ∧ ∀ i, i < 5 → ∀ s ∈ (D2 i).1, s.size ≤ 9223372036854775807)
    (h2 : Strs w v2 L ∧ ∀ s ∈ L, s.size ≤ 9223372036854775807) :
    Calls Try.prog 3 #[v0, v1, v2] w fun e w' => e = .returned (.bool true) ∧ Ext w w' := by
  have hmo : Try.prog.follows .mixedOrders = true := by kernel_rfl
  obtain ⟨hL, hLs⟩ := h2
  obtain ⟨aL, cL, rfl, hcL, hmL⟩ := Sl.shape hL
  have H1 := Lib.hid hL
  have HLS := Lib.hid hLs
  clear hL hLs
  obtain ⟨vs, rfl, hV0, hs0⟩ := h0
  obtain ⟨A, hA1, hA2⟩ := heads hV0.shape
  rw [show dv vs = dv (hv A) from by unfold dv; rw [hA2]]
  have hV : DicV w (hv A) D := fun i hi => by rw [← hA1 i hi]; exact hV0 i hi
  clear hA1 hA2 hV0
  obtain ⟨vs2, rfl, hV0, hs2⟩ := h1
  obtain ⟨A2, hA1, hA2⟩ := heads hV0.shape
  rw [show dv vs2 = dv (hv A2) from by unfold dv; rw [hA2]]
  have hV2 : DicV w (hv A2) D2 := fun i hi => by rw [← hA1 i hi]; exact hV0 i hi
  clear hA1 hA2 hV0
  have hx0 : Ext w ((w.alloc (.cells #[Value.slice (A 0).1 (A 0).2.1 (A 0).2.2.1, .slice (A 0).2.2.2.1 (A 0).2.2.2.2.1 (A 0).2.2.2.2.2, Value.slice (A 1).1 (A 1).2.1 (A 1).2.2.1, .slice (A 1).2.2.2.1 (A 1).2.2.2.2.1 (A 1).2.2.2.2.2, Value.slice (A 2).1 (A 2).2.1 (A 2).2.2.1, .slice (A 2).2.2.2.1 (A 2).2.2.2.2.1 (A 2).2.2.2.2.2, Value.slice (A 3).1 (A 3).2.1 (A 3).2.2.1, .slice (A 3).2.2.2.1 (A 3).2.2.2.2.1 (A 3).2.2.2.2.2, Value.slice (A 4).1 (A 4).2.1 (A 4).2.2.1, .slice (A 4).2.2.2.1 (A 4).2.2.2.2.1 (A 4).2.2.2.2.2] 28)).alloc (.cells #[Value.slice (A2 0).1 (A2 0).2.1 (A2 0).2.2.1, .slice (A2 0).2.2.2.1 (A2 0).2.2.2.2.1 (A2 0).2.2.2.2.2, Value.slice (A2 1).1 (A2 1).2.1 (A2 1).2.2.1, .slice (A2 1).2.2.2.1 (A2 1).2.2.2.2.1 (A2 1).2.2.2.2.2, Value.slice (A2 2).1 (A2 2).2.1 (A2 2).2.2.1, .slice (A2 2).2.2.2.1 (A2 2).2.2.2.2.1 (A2 2).2.2.2.2.2, Value.slice (A2 3).1 (A2 3).2.1 (A2 3).2.2.1, .slice (A2 3).2.2.2.1 (A2 3).2.2.2.2.1 (A2 3).2.2.2.2.2, Value.slice (A2 4).1 (A2 4).2.1 (A2 4).2.2.1, .slice (A2 4).2.2.2.1 (A2 4).2.2.2.2.1 (A2 4).2.2.2.2.2] 28)) := (Ext.alloc _ _).trans (Ext.alloc _ _)
  have hb0 : RowAt ((w.alloc (.cells #[Value.slice (A 0).1 (A 0).2.1 (A 0).2.2.1, .slice (A 0).2.2.2.1 (A 0).2.2.2.2.1 (A 0).2.2.2.2.2, Value.slice (A 1).1 (A 1).2.1 (A 1).2.2.1, .slice (A 1).2.2.2.1 (A 1).2.2.2.2.1 (A 1).2.2.2.2.2, Value.slice (A 2).1 (A 2).2.1 (A 2).2.2.1, .slice (A 2).2.2.2.1 (A 2).2.2.2.2.1 (A 2).2.2.2.2.2, Value.slice (A 3).1 (A 3).2.1 (A 3).2.2.1, .slice (A 3).2.2.2.1 (A 3).2.2.2.2.1 (A 3).2.2.2.2.2, Value.slice (A 4).1 (A 4).2.1 (A 4).2.2.1, .slice (A 4).2.2.2.1 (A 4).2.2.2.2.1 (A 4).2.2.2.2.2] 28)).alloc (.cells #[Value.slice (A2 0).1 (A2 0).2.1 (A2 0).2.2.1, .slice (A2 0).2.2.2.1 (A2 0).2.2.2.2.1 (A2 0).2.2.2.2.2, Value.slice (A2 1).1 (A2 1).2.1 (A2 1).2.2.1, .slice (A2 1).2.2.2.1 (A2 1).2.2.2.2.1 (A2 1).2.2.2.2.2, Value.slice (A2 2).1 (A2 2).2.1 (A2 2).2.2.1, .slice (A2 2).2.2.2.1 (A2 2).2.2.2.2.1 (A2 2).2.2.2.2.2, Value.slice (A2 3).1 (A2 3).2.1 (A2 3).2.2.1, .slice (A2 3).2.2.2.1 (A2 3).2.2.2.2.1 (A2 3).2.2.2.2.2, Value.slice (A2 4).1 (A2 4).2.1 (A2 4).2.2.1, .slice (A2 4).2.2.2.1 (A2 4).2.2.2.2.1 (A2 4).2.2.2.2.2] 28)) w.heap.size 28 (dcells (hv A)) := (RowAt.new w _ (dcells (hv A))).ext (Ext.alloc _ _)
  have hb1 : RowAt ((w.alloc (.cells #[Value.slice (A 0).1 (A 0).2.1 (A 0).2.2.1, .slice (A 0).2.2.2.1 (A 0).2.2.2.2.1 (A 0).2.2.2.2.2, Value.slice (A 1).1 (A 1).2.1 (A 1).2.2.1, .slice (A 1).2.2.2.1 (A 1).2.2.2.2.1 (A 1).2.2.2.2.2, Value.slice (A 2).1 (A 2).2.1 (A 2).2.2.1, .slice (A 2).2.2.2.1 (A 2).2.2.2.2.1 (A 2).2.2.2.2.2, Value.slice (A 3).1 (A 3).2.1 (A 3).2.2.1, .slice (A 3).2.2.2.1 (A 3).2.2.2.2.1 (A 3).2.2.2.2.2, Value.slice (A 4).1 (A 4).2.1 (A 4).2.2.1, .slice (A 4).2.2.2.1 (A 4).2.2.2.2.1 (A 4).2.2.2.2.2] 28)).alloc (.cells #[Value.slice (A2 0).1 (A2 0).2.1 (A2 0).2.2.1, .slice (A2 0).2.2.2.1 (A2 0).2.2.2.2.1 (A2 0).2.2.2.2.2, Value.slice (A2 1).1 (A2 1).2.1 (A2 1).2.2.1, .slice (A2 1).2.2.2.1 (A2 1).2.2.2.2.1 (A2 1).2.2.2.2.2, Value.slice (A2 2).1 (A2 2).2.1 (A2 2).2.2.1, .slice (A2 2).2.2.2.1 (A2 2).2.2.2.2.1 (A2 2).2.2.2.2.2, Value.slice (A2 3).1 (A2 3).2.1 (A2 3).2.2.1, .slice (A2 3).2.2.2.1 (A2 3).2.2.2.2.1 (A2 3).2.2.2.2.2, Value.slice (A2 4).1 (A2 4).2.1 (A2 4).2.2.1, .slice (A2 4).2.2.2.1 (A2 4).2.2.2.2.1 (A2 4).2.2.2.2.2] 28)) (w.heap.size + 1) 28 (dcells (hv A2)) := row_at (xs := dcells (hv A2)) (by simp)
  have HV := Lib.hid hV
  have HV2 := Lib.hid hV2
  have HB := Lib.hid hb0
  have HB2 := Lib.hid hb1
  have HX := Lib.hid hx0
  have HSZ := Lib.hid (cutD_s hs0)
  have HSZ2 := Lib.hid (cutD_s hs2)
  clear hV hV2 hb0 hb1 hx0 hs0 hs2
  unfold dv dcells hv
  dsimp only
  go_enter Try.func3, Try.ntmps3
  go_upto_region 1 with fail
  generalize (w.alloc (.cells #[Value.slice (A 0).1 (A 0).2.1 (A 0).2.2.1, .slice (A 0).2.2.2.1 (A 0).2.2.2.2.1 (A 0).2.2.2.2.2, Value.slice (A 1).1 (A 1).2.1 (A 1).2.2.1, .slice (A 1).2.2.2.1 (A 1).2.2.2.2.1 (A 1).2.2.2.2.2, Value.slice (A 2).1 (A 2).2.1 (A 2).2.2.1, .slice (A 2).2.2.2.1 (A 2).2.2.2.2.1 (A 2).2.2.2.2.2, Value.slice (A 3).1 (A 3).2.1 (A 3).2.2.1, .slice (A 3).2.2.2.1 (A 3).2.2.2.2.1 (A 3).2.2.2.2.2, Value.slice (A 4).1 (A 4).2.1 (A 4).2.2.1, .slice (A 4).2.2.2.1 (A 4).2.2.2.2.1 (A 4).2.2.2.2.2] 28)).alloc (.cells #[Value.slice (A2 0).1 (A2 0).2.1 (A2 0).2.2.1, .slice (A2 0).2.2.2.1 (A2 0).2.2.2.2.1 (A2 0).2.2.2.2.2, Value.slice (A2 1).1 (A2 1).2.1 (A2 1).2.2.1, .slice (A2 1).2.2.2.1 (A2 1).2.2.2.2.1 (A2 1).2.2.2.2.2, Value.slice (A2 2).1 (A2 2).2.1 (A2 2).2.2.1, .slice (A2 2).2.2.2.1 (A2 2).2.2.2.2.1 (A2 2).2.2.2.2.2, Value.slice (A2 3).1 (A2 3).2.1 (A2 3).2.2.1, .slice (A2 3).2.2.2.1 (A2 3).2.2.2.2.1 (A2 3).2.2.2.2.2, Value.slice (A2 4).1 (A2 4).2.1 (A2 4).2.2.1, .slice (A2 4).2.2.2.1 (A2 4).2.2.2.2.1 (A2 4).2.2.2.2.2] 28) = wa at *
  go_wp2_with fail
  refine (dwakes_any _).mono ?_
  rintro e w1 ⟨rfl, hx1⟩
  replace HB := Lib.hid (HB.out.ext hx1)
  replace HB2 := Lib.hid (HB2.out.ext hx1)
  replace HX := Lib.hid (HX.out.trans hx1)
  clear hx1
  go_upto_region 3 with fail
  refine wp_region_inv [17, 18, 19, 20, 7, 8] _ depM (PairG w1 (dv (hv A)) (dv (hv A2)) (OwnU w1 D) (OwnU w1 D2) 28 28 (dcells noV) (dcells noV)) hmo (by kernel_rfl) (by kernel_rfl) (puts_self _ _) (PairG.start _ rfl (Ext.drewN w1 1)) ?_ ?_
  · refine ⟨?_, ?_, ?_, ?_, ?_, ?_, ?_, ?_, trivial⟩
    all_goals
      rintro S us wq hd hn ⟨l0, c0, l1, c1, x0, x1, rfl, hF⟩ K hK
      have hK' := fun l0 c0 l1 c1 x0 x1 w' h => hK [l0, c0, l1, c1, x0, x1] w' h
      clear hK

      have hxq : Ext w1 wq := hF.ext
      have HXQ := Lib.hid hxq
      clear hxq
      simp only [puts, Act.put] at hK' ⊢

      have HK := Lib.hid hK'
      have HF := Lib.hid hF
      have HN := Lib.hid hn
      have HD := Lib.hid hd
      clear hK' hF hn hd
    · have hrr := HB.out.ext HXQ.out
      have hf := RowAt.facts10 (vs := hv A) hrr
      have d0 := hf.1
      have d1 := hf.2.1
      have d2 := hf.2.2.1
      have d3 := hf.2.2.2.1
      have d4 := hf.2.2.2.2.1
      have d5 := hf.2.2.2.2.2.1
      have d6 := hf.2.2.2.2.2.2.1
      have d7 := hf.2.2.2.2.2.2.2.1
      have d8 := hf.2.2.2.2.2.2.2.2.1
      have d9 := hf.2.2.2.2.2.2.2.2.2
      clear hrr hf
      unfold hv at d0 d1 d2 d3 d4 d5 d6 d7 d8 d9
      dsimp only at d0 d1 d2 d3 d4 d5 d6 d7 d8 d9
      go_simp
      exact HK.out (dv (hv A)) c0 l1 c1 x0 x1 wq HF.out.load0
    · have hc := HD.out 0 (by decide)
      have hl := HF.out.a0 hc
      have hq := own_u w1 A D wq HXQ.out (HV.out.ext HX.out)
      rw [← hl] at hq
      have HQ := Lib.hid hq
      clear hq hc hl
      go_simp
      refine HQ.out.mono ?_
      rintro e wy ⟨u, rfl, hou, hxu⟩
      exact HK.out l0 u l1 c1 x0 x1 wy (HF.out.call0 (OwnU.firm _ _) HN.out hxu hou)
    · have hrr := HB2.out.ext HXQ.out
      have hf := RowAt.facts10 (vs := hv A2) hrr
      have d0 := hf.1
      have d1 := hf.2.1
      have d2 := hf.2.2.1
      have d3 := hf.2.2.2.1
      have d4 := hf.2.2.2.2.1
      have d5 := hf.2.2.2.2.2.1
      have d6 := hf.2.2.2.2.2.2.1
      have d7 := hf.2.2.2.2.2.2.2.1
      have d8 := hf.2.2.2.2.2.2.2.2.1
      have d9 := hf.2.2.2.2.2.2.2.2.2
      clear hrr hf
      unfold hv at d0 d1 d2 d3 d4 d5 d6 d7 d8 d9
      dsimp only at d0 d1 d2 d3 d4 d5 d6 d7 d8 d9
      go_simp
      exact HK.out l0 c0 (dv (hv A2)) c1 x0 x1 wq HF.out.load1
    · have hc := HD.out 2 (by decide)
      have hl := HF.out.a2 hc
      have hq := own_u w1 A2 D2 wq HXQ.out (HV2.out.ext HX.out)
      rw [← hl] at hq
      have HQ := Lib.hid hq
      clear hq hc hl
      go_simp
      refine HQ.out.mono ?_
      rintro e wy ⟨u, rfl, hou, hxu⟩
      exact HK.out l0 c0 l1 u x0 x1 wy (HF.out.call1 (OwnU.firm _ _) HN.out hxu hou)
    · have hk := HK.out l0 c0 l1 c1 _ x1 _ (HF.out.new0 (OwnU.firm _ _) (OwnU.firm _ _) HN.out)
      go_simp
      exact hk
    · have hk := HK.out l0 c0 l1 c1 x0 _ _ (HF.out.new1 (OwnU.firm _ _) (OwnU.firm _ _) HN.out)
      go_simp
      exact hk
    · have h1 := HD.out 1 (by decide)
      have h4 := HD.out 4 (by decide)
      have hou := HF.out.a1 h1
      have hbx := HF.out.a4 h4
      revert hou hbx
      refine fun ⟨B, hB, _⟩ ⟨g, hg, _, hrow⟩ => ?_
      rw [if_neg (by rw [HN.out]; simp)] at hrow
      have hk := HK.out l0 c0 l1 c1 x0 x1 _ (HF.out.store0 (OwnU.firm _ _) (OwnU.firm _ _) h1 HN.out hg h4 (by rw [hB]; rfl))
      subst hB hg
      have hf := RowAt.facts10 (vs := noV) hrow
      have hg := RowAt.facts10f hrow
      have d0 := hf.1
      have d1 := hf.2.1
      have d2 := hf.2.2.1
      have d3 := hf.2.2.2.1
      have d4 := hf.2.2.2.2.1
      have d5 := hf.2.2.2.2.2.1
      have d6 := hf.2.2.2.2.2.2.1
      have d7 := hf.2.2.2.2.2.2.2.1
      have d8 := hf.2.2.2.2.2.2.2.2.1
      have d9 := hf.2.2.2.2.2.2.2.2.2
      have g0 := hg.1
      have g1 := hg.2.1
      have g2 := hg.2.2.1
      have g3 := hg.2.2.2.1
      have g4 := hg.2.2.2.2.1
      have g5 := hg.2.2.2.2.2.1
      have g6 := hg.2.2.2.2.2.2.1
      have g7 := hg.2.2.2.2.2.2.2.1
      have g8 := hg.2.2.2.2.2.2.2.2.1
      have g9 := hg.2.2.2.2.2.2.2.2.2
      clear hrow hf hg
      unfold noV at d0 d1 d2 d3 d4 d5 d6 d7 d8 d9
      dsimp only at d0 d1 d2 d3 d4 d5 d6 d7 d8 d9
      unfold dv dcells hv at hk ⊢
      dsimp only at hk ⊢
      have HKK := Lib.hid hk
      clear hk h1 h4
      go_simp
      exact HKK.out
    · have h1 := HD.out 3 (by decide)
      have h4 := HD.out 5 (by decide)
      have hou := HF.out.a3 h1
      have hbx := HF.out.a5 h4
      revert hou hbx
      refine fun ⟨B, hB, _⟩ ⟨g, hg, _, hrow⟩ => ?_
      rw [if_neg (by rw [HN.out]; simp)] at hrow
      have hk := HK.out l0 c0 l1 c1 x0 x1 _ (HF.out.store1 (OwnU.firm _ _) (OwnU.firm _ _) h1 HN.out hg h4 (by rw [hB]; rfl))
      subst hB hg
      have hf := RowAt.facts10 (vs := noV) hrow
      have hg := RowAt.facts10f hrow
      have d0 := hf.1
      have d1 := hf.2.1
      have d2 := hf.2.2.1
      have d3 := hf.2.2.2.1
      have d4 := hf.2.2.2.2.1
      have d5 := hf.2.2.2.2.2.1
      have d6 := hf.2.2.2.2.2.2.1
      have d7 := hf.2.2.2.2.2.2.2.1
      have d8 := hf.2.2.2.2.2.2.2.2.1
      have d9 := hf.2.2.2.2.2.2.2.2.2
      have g0 := hg.1
      have g1 := hg.2.1
      have g2 := hg.2.2.1
      have g3 := hg.2.2.2.1
      have g4 := hg.2.2.2.2.1
      have g5 := hg.2.2.2.2.2.1
      have g6 := hg.2.2.2.2.2.2.1
      have g7 := hg.2.2.2.2.2.2.2.1
      have g8 := hg.2.2.2.2.2.2.2.2.1
      have g9 := hg.2.2.2.2.2.2.2.2.2
      clear hrow hf hg
      unfold noV at d0 d1 d2 d3 d4 d5 d6 d7 d8 d9
      dsimp only at d0 d1 d2 d3 d4 d5 d6 d7 d8 d9
      unfold dv dcells hv at hk ⊢
      dsimp only at hk ⊢
      have HKK := Lib.hid hk
      clear hk h1 h4
      go_simp
      exact HKK.out
  · rintro S us wq hall ⟨l0, c0, l1, c1, x0, x1, rfl, hF⟩
    obtain ⟨B, rfl, hoB⟩ := hF.a1 (hall 1 (by decide))
    obtain ⟨B2, rfl, hoB2⟩ := hF.a3 (hall 3 (by decide))
    obtain ⟨g, rfl, hg, hrow⟩ := hF.a4 (hall 4 (by decide))
    obtain ⟨g2, rfl, hg2, hrow2⟩ := hF.a5 (hall 5 (by decide))
    obtain rfl := hF.a0 (hall 0 (by decide))
    obtain rfl := hF.a2 (hall 2 (by decide))
    rw [if_pos (hall 6 (by decide))] at hrow
    rw [if_pos (hall 7 (by decide))] at hrow2
    have hrow' : RowAt wq g 28 (dcells (hv B)) := hrow
    have hrow2' : RowAt wq g2 28 (dcells (hv B2)) := hrow2
    have HBB := Lib.hid hrow'
    have HBB2 := Lib.hid hrow2'
    have HVB := Lib.hid hoB.view
    have HVB2 := Lib.hid hoB2.view
    replace HB := Lib.hid (HB.out.ext hF.ext)
    replace HB2 := Lib.hid (HB2.out.ext hF.ext)
    replace HX := Lib.hid (HX.out.trans hF.ext)
    clear hF hrow hrow2 hrow' hrow2' hoB hoB2 hg hg2 hall
    simp only [puts, Act.put]
    unfold dv dcells hv
    dsimp only
    clear S
    obtain ⟨c0, c1, c2, c3, c4, c5, c6, c7, c8, c9⟩ := RowAt.facts10 (vs := hv B) (HBB.out)
    unfold hv at c0 c1 c2 c3 c4 c5 c6 c7 c8 c9
    dsimp only at c0 c1 c2 c3 c4 c5 c6 c7 c8 c9
    have hcon := dright_any (hv B) (cutD D) wq HVB.out HSZ.out
    try unfold dv at hcon
    try unfold nv at hcon
    try unfold dcells at hcon
    try unfold ncells at hcon
    try unfold nsA at hcon
    try unfold ofV at hcon
    try unfold noV at hcon
    try unfold noN at hcon
    try unfold hv at hcon
    try dsimp only at hcon
    have HRI := Lib.hid hcon
    clear hcon
    go_wp2_with fail
    refine HRI.out.mono ?_
    rintro e w4 ⟨r, rfl, hr, hx4⟩
    clear c0 c1 c2 c3 c4 c5 c6 c7 c8 c9
    have HR := Lib.hid hr
    replace HB := Lib.hid (HB.out.ext hx4)
    replace HB2 := Lib.hid (HB2.out.ext hx4)
    replace HX := Lib.hid (HX.out.trans hx4)
    replace HBB := Lib.hid (HBB.out.ext hx4)
    replace HBB2 := Lib.hid (HBB2.out.ext hx4)
    replace HVB := Lib.hid (HVB.out.ext hx4)
    replace HVB2 := Lib.hid (HVB2.out.ext hx4)
    obtain ⟨c0, c1, c2, c3, c4, c5, c6, c7, c8, c9⟩ := RowAt.facts10 (vs := hv B) (HBB.out)
    unfold hv at c0 c1 c2 c3 c4 c5 c6 c7 c8 c9
    dsimp only at c0 c1 c2 c3 c4 c5 c6 c7 c8 c9
    have hcon := dcheck_any (hv B) (cutD D) w4 HVB.out HSZ.out
    try unfold dv at hcon
    try unfold nv at hcon
    try unfold dcells at hcon
    try unfold ncells at hcon
    try unfold nsA at hcon
    try unfold ofV at hcon
    try unfold noV at hcon
    try unfold noN at hcon
    try unfold hv at hcon
    try dsimp only at hcon
    have HCK := Lib.hid hcon
    clear hcon
    clear hx4 HRI hr
    go_wp2_with fail
    refine HCK.out.mono ?_
    rintro e w5 ⟨c, rfl, hc1, hc2, hx5⟩
    clear c0 c1 c2 c3 c4 c5 c6 c7 c8 c9
    have HC1 := Lib.hid hc1
    have HC2 := Lib.hid hc2
    replace HB := Lib.hid (HB.out.ext hx5)
    replace HB2 := Lib.hid (HB2.out.ext hx5)
    replace HX := Lib.hid (HX.out.trans hx5)
    replace HBB := Lib.hid (HBB.out.ext hx5)
    replace HBB2 := Lib.hid (HBB2.out.ext hx5)
    replace HVB := Lib.hid (HVB.out.ext hx5)
    replace HVB2 := Lib.hid (HVB2.out.ext hx5)
    clear hx5 HCK hc1 hc2
    go_upto_region 6 with fail
    go_cut [47] (fun s47 wx => s47 = .bool false ∧ Ext w5 wx)
    case first =>
      refine wp_region_gro groM6 [0, 1, 2, 3, 4, 5, 6, 7, 8, 9, 10, 11, 12, 13, 14, 16, 18, 15, 17, 19, 20, 21, 22] hmo (by kernel_rfl) rfl (by kernel_rfl) (fun _ _ _ _ _ h => h) ?_
      have hdr : Ext w5 w5.drew := Ext.drewN w5 1
      have HXD := Lib.hid hdr
      replace HB := Lib.hid (HB.out.ext hdr)
      replace HB2 := Lib.hid (HB2.out.ext hdr)
      replace HX := Lib.hid (HX.out.trans hdr)
      replace HBB := Lib.hid (HBB.out.ext hdr)
      replace HBB2 := Lib.hid (HBB2.out.ext hdr)
      replace HVB := Lib.hid (HVB.out.ext hdr)
      replace HVB2 := Lib.hid (HVB2.out.ext hdr)
      clear hdr
      generalize w5.drew = w6 at *
      obtain ⟨c0, c1, c2, c3, c4, c5, c6, c7, c8, c9⟩ := RowAt.facts10 (vs := hv B) (HBB.out)
      unfold hv at c0 c1 c2 c3 c4 c5 c6 c7 c8 c9
      dsimp only at c0 c1 c2 c3 c4 c5 c6 c7 c8 c9
      obtain ⟨e0, e1, e2, e3, e4, e5, e6, e7, e8, e9⟩ := RowAt.facts10 (vs := hv B2) (HBB2.out)
      unfold hv at e0 e1 e2 e3 e4 e5 e6 e7 e8 e9
      dsimp only at e0 e1 e2 e3 e4 e5 e6 e7 e8 e9
      have HSM := Lib.hid (fun w' (hx : Ext w6 w') => dsame_any (hv B) (hv B2) (cutD D) (cutD D2) w' (HVB.out.ext hx) (HVB2.out.ext hx))
      have HRS := Lib.hid (fun w' (hx : Ext w6 w') => refSameN (ofV (hv B)) (ofV (hv B2)) (ofD (cutD D)) (ofD (cutD D2)) w' (DicV.names (HVB.out.ext hx)) (DicV.names (HVB2.out.ext hx)))
      have hsb : ∃ sb, sameN (ofD (cutD D)) (ofD (cutD D2)) = sb := ⟨_, rfl⟩
      obtain ⟨sb, hsb⟩ := hsb
      rw [hsb] at HSM HRS
      clear hsb
      have hcr : (c = 0 ∧ r = true) ∨ (c = 160 ∧ r = false) := by
        rcases HC1.out with rfl | rfl
        · exact .inl ⟨rfl, HR.out.2 (HC2.out.1 rfl)⟩
        · refine .inr ⟨rfl, ?_⟩
          cases r
          · rfl
          · have := HC2.out.2 (HR.out.1 rfl)
            cases this
      rcases hcr with ⟨rfl, rfl⟩ | ⟨rfl, rfl⟩
      all_goals
        repeat (first
          | (refine groL_pure rfl rfl ?_; intro K hK; go_simp; refine hK _ ?_; clear hK K)
          | (refine groL_read rfl rfl ?_; intro K S hS hK; go_simp; refine hK _ ?_; clear hK K hS S)
          | (refine groL_read rfl rfl ?_; intro K S hS hK; go_simp; refine ⟨hS _ ?_, hK _ ?_⟩; (clear hK K hS S; intro w' hx'; have hce := ext_some hx'; go_simp); clear hK K hS S)
          | (refine groL_write rfl rfl ?_; intro K hK; go_simp; refine hK _ _ ?_; clear hK K))
        have hcon := HSM.out w6 (Ext.refl _)
        try unfold dv at hcon
        try unfold nv at hcon
        try unfold dcells at hcon
        try unfold ncells at hcon
        try unfold nsA at hcon
        try unfold ofV at hcon
        try unfold noV at hcon
        try unfold noN at hcon
        try unfold hv at hcon
        try dsimp only at hcon
        have HS1 := Lib.hid hcon
        clear hcon
        refine groL_grow rfl rfl ?_
        intro K hK
        go_simp
        (refine HS1.out.mono ?_; rintro e wa1 ⟨rfl, hxa⟩)
        go_simp
        refine hK _ _ ⟨hxa, ?_⟩
        clear hK K
        clear c0 c1 c2 c3 c4 c5 c6 c7 c8 c9
        clear e0 e1 e2 e3 e4 e5 e6 e7 e8 e9
        have hcon := of_hv B wa1
        try unfold dv at hcon
        try unfold nv at hcon
        try unfold dcells at hcon
        try unfold ncells at hcon
        try unfold nsA at hcon
        try unfold ofV at hcon
        try unfold noV at hcon
        try unfold noN at hcon
        try unfold hv at hcon
        try dsimp only at hcon
        have HO1 := Lib.hid hcon
        clear hcon
        repeat (first
          | (refine groL_pure rfl rfl ?_; intro K hK; go_simp; refine hK _ ?_; clear hK K)
          | (refine groL_read rfl rfl ?_; intro K S hS hK; go_simp; refine hK _ ?_; clear hK K hS S)
          | (refine groL_read rfl rfl ?_; intro K S hS hK; go_simp; refine ⟨hS _ ?_, hK _ ?_⟩; (clear hK K hS S; intro w' hx'; have hce := ext_some hx'; go_simp); clear hK K hS S)
          | (refine groL_write rfl rfl ?_; intro K hK; go_simp; refine hK _ _ ?_; clear hK K))
        refine groL_grow rfl rfl ?_
        intro K hK
        go_simp
        (refine HO1.out.mono ?_; rintro e wb1 ⟨rfl, hxb⟩)
        go_simp
        refine hK _ _ ⟨hxb, ?_⟩
        clear hK K
        have hcon := of_hv B2 wb1
        try unfold dv at hcon
        try unfold nv at hcon
        try unfold dcells at hcon
        try unfold ncells at hcon
        try unfold nsA at hcon
        try unfold ofV at hcon
        try unfold noV at hcon
        try unfold noN at hcon
        try unfold hv at hcon
        try dsimp only at hcon
        have HO2 := Lib.hid hcon
        clear hcon
        repeat (first
          | (refine groL_pure rfl rfl ?_; intro K hK; go_simp; refine hK _ ?_; clear hK K)
          | (refine groL_read rfl rfl ?_; intro K S hS hK; go_simp; refine hK _ ?_; clear hK K hS S)
          | (refine groL_read rfl rfl ?_; intro K S hS hK; go_simp; refine ⟨hS _ ?_, hK _ ?_⟩; (clear hK K hS S; intro w' hx'; have hce := ext_some hx'; go_simp); clear hK K hS S)
          | (refine groL_write rfl rfl ?_; intro K hK; go_simp; refine hK _ _ ?_; clear hK K))
        refine groL_grow rfl rfl ?_
        intro K hK
        go_simp
        (refine HO2.out.mono ?_; rintro e wc1 ⟨rfl, hxc⟩)
        go_simp
        refine hK _ _ ⟨hxc, ?_⟩
        clear hK K
        have hcon := HRS.out wc1 ((hxa.trans hxb).trans hxc)
        try unfold dv at hcon
        try unfold nv at hcon
        try unfold dcells at hcon
        try unfold ncells at hcon
        try unfold nsA at hcon
        try unfold ofV at hcon
        try unfold noV at hcon
        try unfold noN at hcon
        try unfold hv at hcon
        try dsimp only at hcon
        have HS2 := Lib.hid hcon
        clear hcon
        repeat (first
          | (refine groL_pure rfl rfl ?_; intro K hK; go_simp; refine hK _ ?_; clear hK K)
          | (refine groL_read rfl rfl ?_; intro K S hS hK; go_simp; refine hK _ ?_; clear hK K hS S)
          | (refine groL_read rfl rfl ?_; intro K S hS hK; go_simp; refine ⟨hS _ ?_, hK _ ?_⟩; (clear hK K hS S; intro w' hx'; have hce := ext_some hx'; go_simp); clear hK K hS S)
          | (refine groL_write rfl rfl ?_; intro K hK; go_simp; refine hK _ _ ?_; clear hK K))
        refine groL_grow rfl rfl ?_
        intro K hK
        go_simp
        (refine HS2.out.mono ?_; rintro e wd1 ⟨rfl, hxd⟩)
        go_simp
        refine hK _ _ ⟨hxd, ?_⟩
        clear hK K
        have HXX := Lib.hid (((HXD.out.trans hxa).trans hxb).trans (hxc.trans hxd))
        clear hxa hxb hxc hxd
        cases sb
        all_goals
          repeat (first
            | (refine groL_pure rfl rfl ?_; intro K hK; go_simp; refine hK _ ?_; clear hK K)
            | (refine groL_read rfl rfl ?_; intro K S hS hK; go_simp; refine hK _ ?_; clear hK K hS S)
            | (refine groL_read rfl rfl ?_; intro K S hS hK; go_simp; refine ⟨hS _ ?_, hK _ ?_⟩; (clear hK K hS S; intro w' hx'; have hce := ext_some hx'; go_simp); clear hK K hS S)
            | (refine groL_write rfl rfl ?_; intro K hK; go_simp; refine hK _ _ ?_; clear hK K))
          refine groL_nil ?_
          try go_wp2_with fail
          go_meet
          exact ⟨rfl, HXX.out⟩
    case rest =>
      obtain ⟨rfl, hwc⟩ := hcut
      replace HB := Lib.hid (HB.out.ext hwc)
      replace HB2 := Lib.hid (HB2.out.ext hwc)
      replace HX := Lib.hid (HX.out.trans hwc)
      replace HBB := Lib.hid (HBB.out.ext hwc)
      replace HBB2 := Lib.hid (HBB2.out.ext hwc)
      replace HVB := Lib.hid (HVB.out.ext hwc)
      replace HVB2 := Lib.hid (HVB2.out.ext hwc)
      clear hwc HC1 HC2 HR
      go_wp2_with fail
      go_loopg [11, 12, 50] L.length (fun g s11 s12 i wi => ∃ j : Nat, j ≤ L.length ∧ g = L.length - j ∧ i = .int .i64 j ∧ Ext wc wi)
      case atStart => exact ⟨0, Nat.zero_le _, rfl, rfl, Ext.refl _⟩
      case round =>
        obtain ⟨j, hj, hg, rfl, hxr⟩ := hrel
        have Hg := Lib.hid hg
        have HXr := Lib.hid hxr
        clear hg hxr
        by_cases hl : j < L.length
        · obtain ⟨b3, o3, rfl, hc3⟩ := (H1.out.ext (HX.out.trans HXr.out)).at_ hl
          by_cases h8 : j = 8
          · have he8 : ((j : Int) == 8) = true := by simp [h8]
            clear h8
            go_wp2_with fail
            obtain ⟨wm, hwn⟩ : ∃ x, x = wr := ⟨_, rfl⟩
            subst hwn
            have HXm := Lib.hid HXr.out
            replace HB := Lib.hid (HB.out.ext HXm.out)
            replace HB2 := Lib.hid (HB2.out.ext HXm.out)
            replace HX := Lib.hid (HX.out.trans HXm.out)
            replace HBB := Lib.hid (HBB.out.ext HXm.out)
            replace HBB2 := Lib.hid (HBB2.out.ext HXm.out)
            replace HVB := Lib.hid (HVB.out.ext HXm.out)
            replace HVB2 := Lib.hid (HVB2.out.ext HXm.out)
            clear HXr HXm H1 HLS
            have hcon := dnew_hv wm
            try unfold dv at hcon
            try unfold nv at hcon
            try unfold dcells at hcon
            try unfold ncells at hcon
            try unfold nsA at hcon
            try unfold ofV at hcon
            try unfold noV at hcon
            try unfold noN at hcon
            try unfold hv at hcon
            try dsimp only at hcon
            have HDN := Lib.hid hcon
            clear hcon
            refine HDN.out.mono ?_
            rintro e wn ⟨N, rfl, hN, hxn⟩
            have hxn' := Ext.alloc wn (.cells #[Value.slice (N 0).1 (N 0).2.1 (N 0).2.2.1, .slice (N 0).2.2.2.1 (N 0).2.2.2.2.1 (N 0).2.2.2.2.2, Value.slice (N 1).1 (N 1).2.1 (N 1).2.2.1, .slice (N 1).2.2.2.1 (N 1).2.2.2.2.1 (N 1).2.2.2.2.2, Value.slice (N 2).1 (N 2).2.1 (N 2).2.2.1, .slice (N 2).2.2.2.1 (N 2).2.2.2.2.1 (N 2).2.2.2.2.2, Value.slice (N 3).1 (N 3).2.1 (N 3).2.2.1, .slice (N 3).2.2.2.1 (N 3).2.2.2.2.1 (N 3).2.2.2.2.2, Value.slice (N 4).1 (N 4).2.1 (N 4).2.2.1, .slice (N 4).2.2.2.1 (N 4).2.2.2.2.1 (N 4).2.2.2.2.2] 28)
            have hbn : RowAt (wn.alloc (.cells #[Value.slice (N 0).1 (N 0).2.1 (N 0).2.2.1, .slice (N 0).2.2.2.1 (N 0).2.2.2.2.1 (N 0).2.2.2.2.2, Value.slice (N 1).1 (N 1).2.1 (N 1).2.2.1, .slice (N 1).2.2.2.1 (N 1).2.2.2.2.1 (N 1).2.2.2.2.2, Value.slice (N 2).1 (N 2).2.1 (N 2).2.2.1, .slice (N 2).2.2.2.1 (N 2).2.2.2.2.1 (N 2).2.2.2.2.2, Value.slice (N 3).1 (N 3).2.1 (N 3).2.2.1, .slice (N 3).2.2.2.1 (N 3).2.2.2.2.1 (N 3).2.2.2.2.2, Value.slice (N 4).1 (N 4).2.1 (N 4).2.2.1, .slice (N 4).2.2.2.1 (N 4).2.2.2.2.1 (N 4).2.2.2.2.2] 28)) wn.heap.size 28 (dcells (hv N)) := RowAt.new _ _ _
            have HBN := Lib.hid hbn
            have HVN := Lib.hid (hN.view.ext hxn')
            have HXN := Lib.hid (hxn.trans hxn')
            replace HB := Lib.hid (HB.out.ext HXN.out)
            replace HB2 := Lib.hid (HB2.out.ext HXN.out)
            replace HX := Lib.hid (HX.out.trans HXN.out)
            replace HBB := Lib.hid (HBB.out.ext HXN.out)
            replace HBB2 := Lib.hid (HBB2.out.ext HXN.out)
            replace HVB := Lib.hid (HVB.out.ext HXN.out)
            replace HVB2 := Lib.hid (HVB2.out.ext HXN.out)
            obtain ⟨z, hz⟩ : ∃ z, wn.heap.size = z := ⟨_, rfl⟩
            clear hxn hxn' hbn hN HXN HDN
            go_upto_region 20 with fail
            generalize wn.alloc (.cells #[Value.slice (N 0).1 (N 0).2.1 (N 0).2.2.1, .slice (N 0).2.2.2.1 (N 0).2.2.2.2.1 (N 0).2.2.2.2.2, Value.slice (N 1).1 (N 1).2.1 (N 1).2.2.1, .slice (N 1).2.2.2.1 (N 1).2.2.2.2.1 (N 1).2.2.2.2.2, Value.slice (N 2).1 (N 2).2.1 (N 2).2.2.1, .slice (N 2).2.2.2.1 (N 2).2.2.2.2.1 (N 2).2.2.2.2.2, Value.slice (N 3).1 (N 3).2.1 (N 3).2.2.1, .slice (N 3).2.2.2.1 (N 3).2.2.2.2.1 (N 3).2.2.2.2.2, Value.slice (N 4).1 (N 4).2.1 (N 4).2.2.1, .slice (N 4).2.2.2.1 (N 4).2.2.2.2.1 (N 4).2.2.2.2.2] 28) = wp at *
            rw [hz] at HBN
            try simp only [hz]
            clear hz
            refine wp_region_gro groM20 [0, 1, 2, 3, 5, 4, 6, 7, 8, 9, 10, 11, 12, 13, 14] hmo (by kernel_rfl) rfl (by kernel_rfl) (fun _ _ _ _ _ h => h) ?_
            have hdr : Ext wp wp.drew := Ext.drewN wp 1
            replace HB := Lib.hid (HB.out.ext hdr)
            replace HB2 := Lib.hid (HB2.out.ext hdr)
            replace HX := Lib.hid (HX.out.trans hdr)
            replace HBB := Lib.hid (HBB.out.ext hdr)
            replace HBB2 := Lib.hid (HBB2.out.ext hdr)
            replace HVB := Lib.hid (HVB.out.ext hdr)
            replace HVB2 := Lib.hid (HVB2.out.ext hdr)
            replace HBN := Lib.hid (HBN.out.ext hdr)
            replace HVN := Lib.hid (HVN.out.ext hdr)
            clear hdr
            generalize wp.drew = wq at *
            obtain ⟨c0, c1, c2, c3, c4, c5, c6, c7, c8, c9⟩ := RowAt.facts10 (vs := hv N) (HBN.out)
            unfold hv at c0 c1 c2 c3 c4 c5 c6 c7 c8 c9
            dsimp only at c0 c1 c2 c3 c4 c5 c6 c7 c8 c9
            have hcon := dright_yes (hv N) newD wq HVN.out (newD_ok.sizes newD_s) newD_ok
            try unfold dv at hcon
            try unfold nv at hcon
            try unfold dcells at hcon
            try unfold ncells at hcon
            try unfold nsA at hcon
            try unfold ofV at hcon
            try unfold noV at hcon
            try unfold noN at hcon
            try unfold hv at hcon
            try dsimp only at hcon
            have HRN := Lib.hid hcon
            clear hcon
            repeat (first
              | (refine groL_pure rfl rfl ?_; intro K hK; go_simp; refine hK _ ?_; clear hK K)
              | (refine groL_read rfl rfl ?_; intro K S hS hK; go_simp; refine hK _ ?_; clear hK K hS S)
              | (refine groL_read rfl rfl ?_; intro K S hS hK; go_simp; refine ⟨hS _ ?_, hK _ ?_⟩; (clear hK K hS S; intro w' hx'; have hce := ext_some hx'; go_simp); clear hK K hS S)
              | (refine groL_write rfl rfl ?_; intro K hK; go_simp; refine hK _ _ ?_; clear hK K))
            refine groL_grow rfl rfl ?_
            intro K hK
            go_simp
            (refine HRN.out.mono ?_; rintro e wa1 ⟨rfl, hxa⟩)
            go_simp
            refine hK _ _ ⟨hxa, ?_⟩
            clear hK K
            clear c0 c1 c2 c3 c4 c5 c6 c7 c8 c9
            replace HB := Lib.hid (HB.out.ext hxa)
            replace HB2 := Lib.hid (HB2.out.ext hxa)
            replace HX := Lib.hid (HX.out.trans hxa)
            replace HBB := Lib.hid (HBB.out.ext hxa)
            replace HBB2 := Lib.hid (HBB2.out.ext hxa)
            replace HVB := Lib.hid (HVB.out.ext hxa)
            replace HVB2 := Lib.hid (HVB2.out.ext hxa)
            replace HBN := Lib.hid (HBN.out.ext hxa)
            replace HVN := Lib.hid (HVN.out.ext hxa)
            clear hxa
            obtain ⟨c0, c1, c2, c3, c4, c5, c6, c7, c8, c9⟩ := RowAt.facts10 (vs := hv N) (HBN.out)
            unfold hv at c0 c1 c2 c3 c4 c5 c6 c7 c8 c9
            dsimp only at c0 c1 c2 c3 c4 c5 c6 c7 c8 c9
            have hcon := of_hv N wa1
            try unfold dv at hcon
            try unfold nv at hcon
            try unfold dcells at hcon
            try unfold ncells at hcon
            try unfold nsA at hcon
            try unfold ofV at hcon
            try unfold noV at hcon
            try unfold noN at hcon
            try unfold hv at hcon
            try dsimp only at hcon
            have HON := Lib.hid hcon
            clear hcon
            repeat (first
              | (refine groL_pure rfl rfl ?_; intro K hK; go_simp; refine hK _ ?_; clear hK K)
              | (refine groL_read rfl rfl ?_; intro K S hS hK; go_simp; refine hK _ ?_; clear hK K hS S)
              | (refine groL_read rfl rfl ?_; intro K S hS hK; go_simp; refine ⟨hS _ ?_, hK _ ?_⟩; (clear hK K hS S; intro w' hx'; have hce := ext_some hx'; go_simp); clear hK K hS S)
              | (refine groL_write rfl rfl ?_; intro K hK; go_simp; refine hK _ _ ?_; clear hK K))
            refine groL_grow rfl rfl ?_
            intro K hK
            go_simp
            (refine HON.out.mono ?_; rintro e wb1 ⟨rfl, hxb⟩)
            go_simp
            refine hK _ _ ⟨hxb, ?_⟩
            clear hK K
            clear c0 c1 c2 c3 c4 c5 c6 c7 c8 c9
            replace HB := Lib.hid (HB.out.ext hxb)
            replace HB2 := Lib.hid (HB2.out.ext hxb)
            replace HX := Lib.hid (HX.out.trans hxb)
            replace HBB := Lib.hid (HBB.out.ext hxb)
            replace HBB2 := Lib.hid (HBB2.out.ext hxb)
            replace HVB := Lib.hid (HVB.out.ext hxb)
            replace HVB2 := Lib.hid (HVB2.out.ext hxb)
            replace HVN := Lib.hid (HVN.out.ext hxb)
            clear hxb
            have hcon := refSame_yes (ofV (hv N)) noN (ofD newD) (fun _ => []) wb1 (DicV.names HVN.out) (fun i hi => Sl.nil _) (fun i hi => rfl)
            try unfold dv at hcon
            try unfold nv at hcon
            try unfold dcells at hcon
            try unfold ncells at hcon
            try unfold nsA at hcon
            try unfold ofV at hcon
            try unfold noV at hcon
            try unfold noN at hcon
            try unfold hv at hcon
            try dsimp only at hcon
            have HSN := Lib.hid hcon
            clear hcon
            repeat (first
              | (refine groL_pure rfl rfl ?_; intro K hK; go_simp; refine hK _ ?_; clear hK K)
              | (refine groL_read rfl rfl ?_; intro K S hS hK; go_simp; refine hK _ ?_; clear hK K hS S)
              | (refine groL_read rfl rfl ?_; intro K S hS hK; go_simp; refine ⟨hS _ ?_, hK _ ?_⟩; (clear hK K hS S; intro w' hx'; have hce := ext_some hx'; go_simp); clear hK K hS S)
              | (refine groL_write rfl rfl ?_; intro K hK; go_simp; refine hK _ _ ?_; clear hK K))
            refine groL_grow rfl rfl ?_
            intro K hK
            go_simp
            (refine HSN.out.mono ?_; rintro e wc1 ⟨rfl, hxc⟩)
            go_simp
            refine hK _ _ ⟨hxc, ?_⟩
            clear hK K
            replace HB := Lib.hid (HB.out.ext hxc)
            replace HB2 := Lib.hid (HB2.out.ext hxc)
            replace HX := Lib.hid (HX.out.trans hxc)
            replace HBB := Lib.hid (HBB.out.ext hxc)
            replace HBB2 := Lib.hid (HBB2.out.ext hxc)
            replace HVB := Lib.hid (HVB.out.ext hxc)
            replace HVB2 := Lib.hid (HVB2.out.ext hxc)
            clear hxc
            obtain ⟨c0, c1, c2, c3, c4, c5, c6, c7, c8, c9⟩ := RowAt.facts10 (vs := hv B) (HBB.out)
            unfold hv at c0 c1 c2 c3 c4 c5 c6 c7 c8 c9
            dsimp only at c0 c1 c2 c3 c4 c5 c6 c7 c8 c9
            obtain ⟨e0, e1, e2, e3, e4, e5, e6, e7, e8, e9⟩ := RowAt.facts10 (vs := hv A) (HB.out)
            unfold hv at e0 e1 e2 e3 e4 e5 e6 e7 e8 e9
            dsimp only at e0 e1 e2 e3 e4 e5 e6 e7 e8 e9
            have hcon := lawOwn_hv A D wc1 (HV.out.ext HX.out)
            try unfold dv at hcon
            try unfold nv at hcon
            try unfold dcells at hcon
            try unfold ncells at hcon
            try unfold nsA at hcon
            try unfold ofV at hcon
            try unfold noV at hcon
            try unfold noN at hcon
            try unfold hv at hcon
            try dsimp only at hcon
            have HOX := Lib.hid hcon
            clear hcon
            repeat (first
              | (refine groL_pure rfl rfl ?_; intro K hK; go_simp; refine hK _ ?_; clear hK K)
              | (refine groL_read rfl rfl ?_; intro K S hS hK; go_simp; refine hK _ ?_; clear hK K hS S)
              | (refine groL_read rfl rfl ?_; intro K S hS hK; go_simp; refine ⟨hS _ ?_, hK _ ?_⟩; (clear hK K hS S; intro w' hx'; have hce := ext_some hx'; go_simp); clear hK K hS S)
              | (refine groL_write rfl rfl ?_; intro K hK; go_simp; refine hK _ _ ?_; clear hK K))
            refine groL_grow rfl rfl ?_
            intro K hK
            go_simp
            (refine HOX.out.mono ?_; rintro e wd1 ⟨F, rfl, howF, hxd⟩)
            go_simp
            refine hK _ _ ⟨hxd, ?_⟩
            clear hK K
            clear c0 c1 c2 c3 c4 c5 c6 c7 c8 c9
            clear e0 e1 e2 e3 e4 e5 e6 e7 e8 e9
            have hcon := lawSame_yes (hv B) (hv F) (cutD D) (cutD D) wd1 (HVB.out.ext hxd) howF.view (fun _ _ => rfl)
            try unfold dv at hcon
            try unfold nv at hcon
            try unfold dcells at hcon
            try unfold ncells at hcon
            try unfold nsA at hcon
            try unfold ofV at hcon
            try unfold noV at hcon
            try unfold noN at hcon
            try unfold hv at hcon
            try dsimp only at hcon
            have HSX := Lib.hid hcon
            clear hcon
            repeat (first
              | (refine groL_pure rfl rfl ?_; intro K hK; go_simp; refine hK _ ?_; clear hK K)
              | (refine groL_read rfl rfl ?_; intro K S hS hK; go_simp; refine hK _ ?_; clear hK K hS S)
              | (refine groL_read rfl rfl ?_; intro K S hS hK; go_simp; refine ⟨hS _ ?_, hK _ ?_⟩; (clear hK K hS S; intro w' hx'; have hce := ext_some hx'; go_simp); clear hK K hS S)
              | (refine groL_write rfl rfl ?_; intro K hK; go_simp; refine hK _ _ ?_; clear hK K))
            refine groL_grow rfl rfl ?_
            intro K hK
            go_simp
            (refine HSX.out.mono ?_; rintro e we1 ⟨rfl, hxe⟩)
            go_simp
            refine hK _ _ ⟨hxe, ?_⟩
            clear hK K
            repeat (first
              | (refine groL_pure rfl rfl ?_; intro K hK; go_simp; refine hK _ ?_; clear hK K)
              | (refine groL_read rfl rfl ?_; intro K S hS hK; go_simp; refine hK _ ?_; clear hK K hS S)
              | (refine groL_read rfl rfl ?_; intro K S hS hK; go_simp; refine ⟨hS _ ?_, hK _ ?_⟩; (clear hK K hS S; intro w' hx'; have hce := ext_some hx'; go_simp); clear hK K hS S)
              | (refine groL_write rfl rfl ?_; intro K hK; go_simp; refine hK _ _ ?_; clear hK K))
            refine groL_nil ?_
            go_wp2_with fail
            go_ret
            exact ⟨rfl, (HX.out.trans hxd).trans hxe⟩
          · have hne : ((j : Int) == 8) = false := by simp; omega
            have hs3 := HLS.out _ (List.getElem_mem hl)
            generalize L[j] = s at *
            clear h8
            by_cases h60 : 60 < s.size
            · have hc := run_cut_str s 60 60 (by omega) (by omega)
              have hsz := ba_cut_size s 60 (by omega)
              generalize s.extract 0 60 = S at hc hsz
              have HSS : Hid (S.size ≤ 9223372036854775807) := Lib.hid (by omega)
              clear hsz
              go_wp2_with fail
              try clear hc h60
              obtain ⟨wk, hwn⟩ : ∃ x, x = wr := ⟨_, rfl⟩
              subst hwn
              go_loopg [13] 7 (fun g i wi => ∃ kind : Int, -1 ≤ kind ∧ kind ≤ 6 ∧ g = (6 - kind).toNat ∧ i = .int .i64 kind ∧ Ext wk wi)
              case atStart => exact ⟨-1, by omega, by omega, rfl, rfl, Ext.refl _⟩
              case round =>
                obtain ⟨kind, hk0, hk6, hg2, rfl, hxk⟩ := hrel
                have Hg2 := Lib.hid hg2
                have HXk := Lib.hid hxk
                clear hg2 hxk
                by_cases hlt : kind ≤ 5
                · have hm := may_any kind S wr HSS.out
                  have hr := fun w' => refMay_any kind S w' HSS.out
                  obtain ⟨mb, hmb⟩ : ∃ mb, mayB kind (bts S) = mb := ⟨_, rfl⟩
                  rw [hmb] at hm hr
                  have HM := Lib.hid hm
                  have HRM := Lib.hid hr
                  clear hm hr hmb
                  cases mb
                  all_goals
                    go_wp2_with fail
                    refine HM.out.mono ?_
                    rintro e wz ⟨rfl, hxz⟩
                    have HXZ := Lib.hid (HXk.out.trans hxz)
                    clear hxz HM
                    go_wp2_with fail
                    refine (HRM.out _).mono ?_
                    rintro e wz ⟨rfl, rfl⟩
                    go_wp2_with fail
                    go_roundg ((6 - (kind + 1)).toNat)
                    case measure => have := Hg2.out; omega
                    case rel => exact ⟨kind + 1, by omega, by omega, rfl, by go_num, HXZ.out⟩
                · obtain rfl : kind = 6 := by omega
                  go_wp2_with fail
                  go_roundg (L.length - (j + 1))
                  case measure => have := Hg.out; omega
                  case rel => exact ⟨j + 1, by omega, rfl, by go_num, HXr.out.trans HXk.out⟩
            · have hc := run_cut_str s s.size s.size rfl (by omega)
              have hsz := ba_cut_size s s.size (by omega)
              generalize s.extract 0 s.size = S at hc hsz
              have HSS : Hid (S.size ≤ 9223372036854775807) := Lib.hid (by omega)
              clear hsz
              go_wp2_with fail
              try clear hc h60
              obtain ⟨wk, hwn⟩ : ∃ x, x = wr := ⟨_, rfl⟩
              subst hwn
              go_loopg [13] 7 (fun g i wi => ∃ kind : Int, -1 ≤ kind ∧ kind ≤ 6 ∧ g = (6 - kind).toNat ∧ i = .int .i64 kind ∧ Ext wk wi)
              case atStart => exact ⟨-1, by omega, by omega, rfl, rfl, Ext.refl _⟩
              case round =>
                obtain ⟨kind, hk0, hk6, hg2, rfl, hxk⟩ := hrel
                have Hg2 := Lib.hid hg2
                have HXk := Lib.hid hxk
                clear hg2 hxk
                by_cases hlt : kind ≤ 5
                · have hm := may_any kind S wr HSS.out
                  have hr := fun w' => refMay_any kind S w' HSS.out
                  obtain ⟨mb, hmb⟩ : ∃ mb, mayB kind (bts S) = mb := ⟨_, rfl⟩
                  rw [hmb] at hm hr
                  have HM := Lib.hid hm
                  have HRM := Lib.hid hr
                  clear hm hr hmb
                  cases mb
                  all_goals
                    go_wp2_with fail
                    refine HM.out.mono ?_
                    rintro e wz ⟨rfl, hxz⟩
                    have HXZ := Lib.hid (HXk.out.trans hxz)
                    clear hxz HM
                    go_wp2_with fail
                    refine (HRM.out _).mono ?_
                    rintro e wz ⟨rfl, rfl⟩
                    go_wp2_with fail
                    go_roundg ((6 - (kind + 1)).toNat)
                    case measure => have := Hg2.out; omega
                    case rel => exact ⟨kind + 1, by omega, by omega, rfl, by go_num, HXZ.out⟩
                · obtain rfl : kind = 6 := by omega
                  go_wp2_with fail
                  go_roundg (L.length - (j + 1))
                  case measure => have := Hg.out; omega
                  case rel => exact ⟨j + 1, by omega, rfl, by go_num, HXr.out.trans HXk.out⟩
        · go_wp2_with fail
          obtain ⟨wm, hwn⟩ : ∃ x, x = wr := ⟨_, rfl⟩
          subst hwn
          have HXm := Lib.hid HXr.out
          replace HB := Lib.hid (HB.out.ext HXm.out)
          replace HB2 := Lib.hid (HB2.out.ext HXm.out)
          replace HX := Lib.hid (HX.out.trans HXm.out)
          replace HBB := Lib.hid (HBB.out.ext HXm.out)
          replace HBB2 := Lib.hid (HBB2.out.ext HXm.out)
          replace HVB := Lib.hid (HVB.out.ext HXm.out)
          replace HVB2 := Lib.hid (HVB2.out.ext HXm.out)
          clear HXr HXm H1 HLS
          have hcon := dnew_hv wm
          try unfold dv at hcon
          try unfold nv at hcon
          try unfold dcells at hcon
          try unfold ncells at hcon
          try unfold nsA at hcon
          try unfold ofV at hcon
          try unfold noV at hcon
          try unfold noN at hcon
          try unfold hv at hcon
          try dsimp only at hcon
          have HDN := Lib.hid hcon
          clear hcon
          refine HDN.out.mono ?_
          rintro e wn ⟨N, rfl, hN, hxn⟩
          have hxn' := Ext.alloc wn (.cells #[Value.slice (N 0).1 (N 0).2.1 (N 0).2.2.1, .slice (N 0).2.2.2.1 (N 0).2.2.2.2.1 (N 0).2.2.2.2.2, Value.slice (N 1).1 (N 1).2.1 (N 1).2.2.1, .slice (N 1).2.2.2.1 (N 1).2.2.2.2.1 (N 1).2.2.2.2.2, Value.slice (N 2).1 (N 2).2.1 (N 2).2.2.1, .slice (N 2).2.2.2.1 (N 2).2.2.2.2.1 (N 2).2.2.2.2.2, Value.slice (N 3).1 (N 3).2.1 (N 3).2.2.1, .slice (N 3).2.2.2.1 (N 3).2.2.2.2.1 (N 3).2.2.2.2.2, Value.slice (N 4).1 (N 4).2.1 (N 4).2.2.1, .slice (N 4).2.2.2.1 (N 4).2.2.2.2.1 (N 4).2.2.2.2.2] 28)
          have hbn : RowAt (wn.alloc (.cells #[Value.slice (N 0).1 (N 0).2.1 (N 0).2.2.1, .slice (N 0).2.2.2.1 (N 0).2.2.2.2.1 (N 0).2.2.2.2.2, Value.slice (N 1).1 (N 1).2.1 (N 1).2.2.1, .slice (N 1).2.2.2.1 (N 1).2.2.2.2.1 (N 1).2.2.2.2.2, Value.slice (N 2).1 (N 2).2.1 (N 2).2.2.1, .slice (N 2).2.2.2.1 (N 2).2.2.2.2.1 (N 2).2.2.2.2.2, Value.slice (N 3).1 (N 3).2.1 (N 3).2.2.1, .slice (N 3).2.2.2.1 (N 3).2.2.2.2.1 (N 3).2.2.2.2.2, Value.slice (N 4).1 (N 4).2.1 (N 4).2.2.1, .slice (N 4).2.2.2.1 (N 4).2.2.2.2.1 (N 4).2.2.2.2.2] 28)) wn.heap.size 28 (dcells (hv N)) := RowAt.new _ _ _
          have HBN := Lib.hid hbn
          have HVN := Lib.hid (hN.view.ext hxn')
          have HXN := Lib.hid (hxn.trans hxn')
          replace HB := Lib.hid (HB.out.ext HXN.out)
          replace HB2 := Lib.hid (HB2.out.ext HXN.out)
          replace HX := Lib.hid (HX.out.trans HXN.out)
          replace HBB := Lib.hid (HBB.out.ext HXN.out)
          replace HBB2 := Lib.hid (HBB2.out.ext HXN.out)
          replace HVB := Lib.hid (HVB.out.ext HXN.out)
          replace HVB2 := Lib.hid (HVB2.out.ext HXN.out)
          obtain ⟨z, hz⟩ : ∃ z, wn.heap.size = z := ⟨_, rfl⟩
          clear hxn hxn' hbn hN HXN HDN
          go_upto_region 20 with fail
          generalize wn.alloc (.cells #[Value.slice (N 0).1 (N 0).2.1 (N 0).2.2.1, .slice (N 0).2.2.2.1 (N 0).2.2.2.2.1 (N 0).2.2.2.2.2, Value.slice (N 1).1 (N 1).2.1 (N 1).2.2.1, .slice (N 1).2.2.2.1 (N 1).2.2.2.2.1 (N 1).2.2.2.2.2, Value.slice (N 2).1 (N 2).2.1 (N 2).2.2.1, .slice (N 2).2.2.2.1 (N 2).2.2.2.2.1 (N 2).2.2.2.2.2, Value.slice (N 3).1 (N 3).2.1 (N 3).2.2.1, .slice (N 3).2.2.2.1 (N 3).2.2.2.2.1 (N 3).2.2.2.2.2, Value.slice (N 4).1 (N 4).2.1 (N 4).2.2.1, .slice (N 4).2.2.2.1 (N 4).2.2.2.2.1 (N 4).2.2.2.2.2] 28) = wp at *
          rw [hz] at HBN
          try simp only [hz]
          clear hz
          refine wp_region_gro groM20 [0, 1, 2, 3, 5, 4, 6, 7, 8, 9, 10, 11, 12, 13, 14] hmo (by kernel_rfl) rfl (by kernel_rfl) (fun _ _ _ _ _ h => h) ?_
          have hdr : Ext wp wp.drew := Ext.drewN wp 1
          replace HB := Lib.hid (HB.out.ext hdr)
          replace HB2 := Lib.hid (HB2.out.ext hdr)
          replace HX := Lib.hid (HX.out.trans hdr)
          replace HBB := Lib.hid (HBB.out.ext hdr)
          replace HBB2 := Lib.hid (HBB2.out.ext hdr)
          replace HVB := Lib.hid (HVB.out.ext hdr)
          replace HVB2 := Lib.hid (HVB2.out.ext hdr)
          replace HBN := Lib.hid (HBN.out.ext hdr)
          replace HVN := Lib.hid (HVN.out.ext hdr)
          clear hdr
          generalize wp.drew = wq at *
          obtain ⟨c0, c1, c2, c3, c4, c5, c6, c7, c8, c9⟩ := RowAt.facts10 (vs := hv N) (HBN.out)
          unfold hv at c0 c1 c2 c3 c4 c5 c6 c7 c8 c9
          dsimp only at c0 c1 c2 c3 c4 c5 c6 c7 c8 c9
          have hcon := dright_yes (hv N) newD wq HVN.out (newD_ok.sizes newD_s) newD_ok
          try unfold dv at hcon
          try unfold nv at hcon
          try unfold dcells at hcon
          try unfold ncells at hcon
          try unfold nsA at hcon
          try unfold ofV at hcon
          try unfold noV at hcon
          try unfold noN at hcon
          try unfold hv at hcon
          try dsimp only at hcon
          have HRN := Lib.hid hcon
          clear hcon
          repeat (first
            | (refine groL_pure rfl rfl ?_; intro K hK; go_simp; refine hK _ ?_; clear hK K)
            | (refine groL_read rfl rfl ?_; intro K S hS hK; go_simp; refine hK _ ?_; clear hK K hS S)
            | (refine groL_read rfl rfl ?_; intro K S hS hK; go_simp; refine ⟨hS _ ?_, hK _ ?_⟩; (clear hK K hS S; intro w' hx'; have hce := ext_some hx'; go_simp); clear hK K hS S)
            | (refine groL_write rfl rfl ?_; intro K hK; go_simp; refine hK _ _ ?_; clear hK K))
          refine groL_grow rfl rfl ?_
          intro K hK
          go_simp
          (refine HRN.out.mono ?_; rintro e wa1 ⟨rfl, hxa⟩)
          go_simp
          refine hK _ _ ⟨hxa, ?_⟩
          clear hK K
          clear c0 c1 c2 c3 c4 c5 c6 c7 c8 c9
          replace HB := Lib.hid (HB.out.ext hxa)
          replace HB2 := Lib.hid (HB2.out.ext hxa)
          replace HX := Lib.hid (HX.out.trans hxa)
          replace HBB := Lib.hid (HBB.out.ext hxa)
          replace HBB2 := Lib.hid (HBB2.out.ext hxa)
          replace HVB := Lib.hid (HVB.out.ext hxa)
          replace HVB2 := Lib.hid (HVB2.out.ext hxa)
          replace HBN := Lib.hid (HBN.out.ext hxa)
          replace HVN := Lib.hid (HVN.out.ext hxa)
          clear hxa
          obtain ⟨c0, c1, c2, c3, c4, c5, c6, c7, c8, c9⟩ := RowAt.facts10 (vs := hv N) (HBN.out)
          unfold hv at c0 c1 c2 c3 c4 c5 c6 c7 c8 c9
          dsimp only at c0 c1 c2 c3 c4 c5 c6 c7 c8 c9
          have hcon := of_hv N wa1
          try unfold dv at hcon
          try unfold nv at hcon
          try unfold dcells at hcon
          try unfold ncells at hcon
          try unfold nsA at hcon
          try unfold ofV at hcon
          try unfold noV at hcon
          try unfold noN at hcon
          try unfold hv at hcon
          try dsimp only at hcon
          have HON := Lib.hid hcon
          clear hcon
          repeat (first
            | (refine groL_pure rfl rfl ?_; intro K hK; go_simp; refine hK _ ?_; clear hK K)
            | (refine groL_read rfl rfl ?_; intro K S hS hK; go_simp; refine hK _ ?_; clear hK K hS S)
            | (refine groL_read rfl rfl ?_; intro K S hS hK; go_simp; refine ⟨hS _ ?_, hK _ ?_⟩; (clear hK K hS S; intro w' hx'; have hce := ext_some hx'; go_simp); clear hK K hS S)
            | (refine groL_write rfl rfl ?_; intro K hK; go_simp; refine hK _ _ ?_; clear hK K))
          refine groL_grow rfl rfl ?_
          intro K hK
          go_simp
          (refine HON.out.mono ?_; rintro e wb1 ⟨rfl, hxb⟩)
          go_simp
          refine hK _ _ ⟨hxb, ?_⟩
          clear hK K
          clear c0 c1 c2 c3 c4 c5 c6 c7 c8 c9
          replace HB := Lib.hid (HB.out.ext hxb)
          replace HB2 := Lib.hid (HB2.out.ext hxb)
          replace HX := Lib.hid (HX.out.trans hxb)
          replace HBB := Lib.hid (HBB.out.ext hxb)
          replace HBB2 := Lib.hid (HBB2.out.ext hxb)
          replace HVB := Lib.hid (HVB.out.ext hxb)
          replace HVB2 := Lib.hid (HVB2.out.ext hxb)
          replace HVN := Lib.hid (HVN.out.ext hxb)
          clear hxb
          have hcon := refSame_yes (ofV (hv N)) noN (ofD newD) (fun _ => []) wb1 (DicV.names HVN.out) (fun i hi => Sl.nil _) (fun i hi => rfl)
          try unfold dv at hcon
          try unfold nv at hcon
          try unfold dcells at hcon
          try unfold ncells at hcon
          try unfold nsA at hcon
          try unfold ofV at hcon
          try unfold noV at hcon
          try unfold noN at hcon
          try unfold hv at hcon
          try dsimp only at hcon
          have HSN := Lib.hid hcon
          clear hcon
          repeat (first
            | (refine groL_pure rfl rfl ?_; intro K hK; go_simp; refine hK _ ?_; clear hK K)
            | (refine groL_read rfl rfl ?_; intro K S hS hK; go_simp; refine hK _ ?_; clear hK K hS S)
            | (refine groL_read rfl rfl ?_; intro K S hS hK; go_simp; refine ⟨hS _ ?_, hK _ ?_⟩; (clear hK K hS S; intro w' hx'; have hce := ext_some hx'; go_simp); clear hK K hS S)
            | (refine groL_write rfl rfl ?_; intro K hK; go_simp; refine hK _ _ ?_; clear hK K))
          refine groL_grow rfl rfl ?_
          intro K hK
          go_simp
          (refine HSN.out.mono ?_; rintro e wc1 ⟨rfl, hxc⟩)
          go_simp
          refine hK _ _ ⟨hxc, ?_⟩
          clear hK K
          replace HB := Lib.hid (HB.out.ext hxc)
          replace HB2 := Lib.hid (HB2.out.ext hxc)
          replace HX := Lib.hid (HX.out.trans hxc)
          replace HBB := Lib.hid (HBB.out.ext hxc)
          replace HBB2 := Lib.hid (HBB2.out.ext hxc)
          replace HVB := Lib.hid (HVB.out.ext hxc)
          replace HVB2 := Lib.hid (HVB2.out.ext hxc)
          clear hxc
          obtain ⟨c0, c1, c2, c3, c4, c5, c6, c7, c8, c9⟩ := RowAt.facts10 (vs := hv B) (HBB.out)
          unfold hv at c0 c1 c2 c3 c4 c5 c6 c7 c8 c9
          dsimp only at c0 c1 c2 c3 c4 c5 c6 c7 c8 c9
          obtain ⟨e0, e1, e2, e3, e4, e5, e6, e7, e8, e9⟩ := RowAt.facts10 (vs := hv A) (HB.out)
          unfold hv at e0 e1 e2 e3 e4 e5 e6 e7 e8 e9
          dsimp only at e0 e1 e2 e3 e4 e5 e6 e7 e8 e9
          have hcon := lawOwn_hv A D wc1 (HV.out.ext HX.out)
          try unfold dv at hcon
          try unfold nv at hcon
          try unfold dcells at hcon
          try unfold ncells at hcon
          try unfold nsA at hcon
          try unfold ofV at hcon
          try unfold noV at hcon
          try unfold noN at hcon
          try unfold hv at hcon
          try dsimp only at hcon
          have HOX := Lib.hid hcon
          clear hcon
          repeat (first
            | (refine groL_pure rfl rfl ?_; intro K hK; go_simp; refine hK _ ?_; clear hK K)
            | (refine groL_read rfl rfl ?_; intro K S hS hK; go_simp; refine hK _ ?_; clear hK K hS S)
            | (refine groL_read rfl rfl ?_; intro K S hS hK; go_simp; refine ⟨hS _ ?_, hK _ ?_⟩; (clear hK K hS S; intro w' hx'; have hce := ext_some hx'; go_simp); clear hK K hS S)
            | (refine groL_write rfl rfl ?_; intro K hK; go_simp; refine hK _ _ ?_; clear hK K))
          refine groL_grow rfl rfl ?_
          intro K hK
          go_simp
          (refine HOX.out.mono ?_; rintro e wd1 ⟨F, rfl, howF, hxd⟩)
          go_simp
          refine hK _ _ ⟨hxd, ?_⟩
          clear hK K
          clear c0 c1 c2 c3 c4 c5 c6 c7 c8 c9
          clear e0 e1 e2 e3 e4 e5 e6 e7 e8 e9
          have hcon := lawSame_yes (hv B) (hv F) (cutD D) (cutD D) wd1 (HVB.out.ext hxd) howF.view (fun _ _ => rfl)
          try unfold dv at hcon
          try unfold nv at hcon
          try unfold dcells at hcon
          try unfold ncells at hcon
          try unfold nsA at hcon
          try unfold ofV at hcon
          try unfold noV at hcon
          try unfold noN at hcon
          try unfold hv at hcon
          try dsimp only at hcon
          have HSX := Lib.hid hcon
          clear hcon
          repeat (first
            | (refine groL_pure rfl rfl ?_; intro K hK; go_simp; refine hK _ ?_; clear hK K)
            | (refine groL_read rfl rfl ?_; intro K S hS hK; go_simp; refine hK _ ?_; clear hK K hS S)
            | (refine groL_read rfl rfl ?_; intro K S hS hK; go_simp; refine ⟨hS _ ?_, hK _ ?_⟩; (clear hK K hS S; intro w' hx'; have hce := ext_some hx'; go_simp); clear hK K hS S)
            | (refine groL_write rfl rfl ?_; intro K hK; go_simp; refine hK _ _ ?_; clear hK K))
          refine groL_grow rfl rfl ?_
          intro K hK
          go_simp
          (refine HSX.out.mono ?_; rintro e we1 ⟨rfl, hxe⟩)
          go_simp
          refine hK _ _ ⟨hxe, ?_⟩
          clear hK K
          repeat (first
            | (refine groL_pure rfl rfl ?_; intro K hK; go_simp; refine hK _ ?_; clear hK K)
            | (refine groL_read rfl rfl ?_; intro K S hS hK; go_simp; refine hK _ ?_; clear hK K hS S)
            | (refine groL_read rfl rfl ?_; intro K S hS hK; go_simp; refine ⟨hS _ ?_, hK _ ?_⟩; (clear hK K hS S; intro w' hx'; have hce := ext_some hx'; go_simp); clear hK K hS S)
            | (refine groL_write rfl rfl ?_; intro K hK; go_simp; refine hK _ _ ?_; clear hK K))
          refine groL_nil ?_
          go_wp2_with fail
          go_ret
          exact ⟨rfl, (HX.out.trans hxd).trans hxe⟩
end Go.Proofs.Ytogoejlbdbapoaa
