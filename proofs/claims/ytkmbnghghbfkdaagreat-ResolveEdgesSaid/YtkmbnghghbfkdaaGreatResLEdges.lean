/- The law ResolveEdges returns true. -/
import Derived.Test.YtkmbnghghbfkdaaGreatGp37
import Derived.Test.YtkmbnghghbfkdaaGreatGp38
namespace Go.Proofs.YtkmbnghghbfkdaaGreat
set_option maxRecDepth 100000
set_option maxHeartbeats 2000000
set_option linter.unusedSimpArgs false
open Go.RowKit Go.Shelf Go.Sort
attribute [local go_sem] Oper.semAt_some wide_fn wide_depth
set_option linter.unusedVariables false

theorem compact2 (x y : Int) : Lib.compact [x, y] = if x = y then [x] else [x, y] := by
  unfold Lib.compact Lib.compactUpTo
  by_cases h : x = y
  · subst h
    simp [List.range_succ, Lib.keeps]
  · rw [if_neg h]
    have h' : ¬ y = x := fun e => h e.symm
    simp [List.range_succ, Lib.keeps, h']
/-- What an edge's row is. -/
structure EdgeRow (a c : Int) (l : List Int) : Prop where
  few : l.length ≤ 2
  mem : ∀ x ∈ l, 0 ≤ x ∧ (x = a ∨ x = c)
  up : ∀ (h : 1 < l.length), l[0] < l[1]
  a_in : a ∈ l ↔ 0 ≤ a
  c_in : c ∈ l ↔ 0 ≤ c
theorem edgeF_row (b : Bnd) : EdgeRow b.a.var b.b.var (edgeF b) := by
  unfold edgeF
  rw [compact2]
  obtain ⟨k, n, ⟨a, i⟩, ⟨c, j⟩⟩ := b
  dsimp only
  unfold keepL
  rcases Int.lt_trichotomy a c with h | h | h
  · rw [show min a c = a by omega, show max a c = c by omega, if_neg (by omega)]
    by_cases h1 : a < 0 <;> by_cases h2 : c < 0 <;> simp [List.filter_cons, h1, h2] <;> constructor <;> simp <;> omega
  · subst h
    rw [show min a a = a by omega, show max a a = a by omega, if_pos rfl]
    by_cases h1 : a < 0 <;> simp [List.filter_cons, h1] <;> constructor <;> simp <;> omega
  · rw [show min a c = c by omega, show max a c = a by omega, if_neg (by omega)]
    by_cases h1 : a < 0 <;> by_cases h2 : c < 0 <;> simp [List.filter_cons, h1, h2] <;> constructor <;> simp <;> omega
theorem containsI_any (l : List Int) (x : Int) (a : Option Addr) (c : Nat) (w : World) (h : Ints w .i64 (.slice a l.length c) l) (hl : l.length ≤ 1000000) :
    Calls Tryz.prog 30 #[.slice a l.length c, .int .i64 x] w fun e w' => e = .returned (.bool (decide (x ∈ l))) ∧ w' = w := by
  by_cases h0 : l = []
  · subst h0
    exact (Tryz.slices_Contains_int_empty a c x w).mono fun e w' h => ⟨by rw [h.1]; rfl, h.2⟩
  · obtain ⟨b, o, rfl⟩ := ints_some h (List.length_pos_iff.2 h0)
    refine (Tryz.slices_Contains_int b o l.length c l x w (Nat.le_refl _) (by omega) (ints_cells h)).mono fun e w' h => ⟨?_, h.2⟩
    rw [h.1, List.take_length]
    congr 2
    rw [Bool.eq_iff_iff]; simp
theorem cutG_fits {G : Gol} (h : G.Near) : (cutG G).Fits := ⟨⟨by simp [cutG]; omega, by simp [cutG]; omega, by simp [cutG]; omega, by simp [cutG]; omega⟩, fun s hs => by
  have := h s (List.mem_of_mem_take hs)
  have hr : reachBytes ≤ 9223372036854775800 := by decide
  omega⟩
set_option maxRecDepth 100000 in
set_option maxHeartbeats 4000000 in
theorem redges_walk (v : Value) (w : World) (h0 : ∃ G : Gol, GolAt w v G ∧ G.Near) :
    Calls Tryz.prog 7 #[v] w fun e w' => e = .returned (.bool true) ∧ Ext w w' := by
  obtain ⟨G, hG, hn⟩ := h0
  have HOW := Lib.hid (fun w' (hx : Ext w w') => ownG_any v G w' (hG.ext hx))
  have HFT := Lib.hid (cutG_fits hn)
  obtain ⟨vv, av, rv, hv', rfl, gV, gA, gR, gH⟩ := hG
  have H0 := Lib.hid (RowAt.new w 39 (golC vv av rv hv' G))
  have HX := Lib.hid (Ext.alloc w (.cells (golC vv av rv hv' G).toArray 39))
  clear gV gA gR gH hn
  unfold golV at *
  go_enter Tryz.func7, Tryz.ntmps7
  go_upto_region 1 with fail
  generalize w.alloc (.cells (golC vv av rv hv' G).toArray 39) = w1 at *
  obtain ⟨y0, hy0⟩ : ∃ x, w.heap.size = x := ⟨_, rfl⟩
  rw [hy0] at H0
  simp only [hy0]
  clear hy0
  go_wp2_with fail
  refine (wakesG_any w1).mono ?_
  rintro e w2 ⟨rfl, hx2⟩
  have HX2 := Lib.hid (HX.out.trans hx2)
  replace H0 := Lib.hid (H0.out.ext hx2)
  clear hx2 HX
  go_upto_region 3 with fail
  apply wp_region_lit
  -- a load of a whole row: y0 block, H0.out fact RowAt, api.Goal the type's name
  refine plain_load rfl _ _ rfl y0 rfl _ _ (H0.out) Tryz.underlying39 rfl (by kernel_rfl) ?_
  go_simp
  -- a call in a plain region: refine (HOW.out w2 HX2.out).mono ?_; rintro e w3 ⟨u, rfl, hgi, hx3⟩ the contract taken, and its results named
  refine wpList_plain rfl fun K1 hK1 => ?_
  go_simp
  refine (HOW.out w2 HX2.out).mono ?_; rintro e w3 ⟨u, rfl, hgi, hx3⟩
  go_simp
  refine hK1 _ _ ?_
  clear hK1 K1
  have hgi0 := hgi
  obtain ⟨uv, ua, ur, uh, rfl, q1, q2, q3, q4⟩ := hgi
  obtain ⟨va2, vc2, rfl⟩ := own_vw q1
  obtain ⟨aa2, ac2, rfl⟩ := own_vw q2
  obtain ⟨ra2, rc2, rfl⟩ := own_vw q3
  obtain ⟨ha2, hc2, rfl⟩ := own_vw q4
  obtain ⟨K, hK⟩ : ∃ K, cutG G = K := ⟨_, rfl⟩
  rw [hK] at hgi0 HFT
  rw [hK]
  have HGA := Lib.hid hgi0.at_
  have HX3 := Lib.hid (HX2.out.trans hx3)
  clear q1 q2 q3 q4 hgi0 hx3 HX2 HOW hK H0
  unfold golV
  -- in a plain region: memory is made and written: w3 world before, #[.slice none 0 0, .slice none 0 0, .slice none 0 0, .bool false, .bool false, .bool false, .int .i64 0, .int .i64 0, .slice none 0 0] zero cells (a literal array), api.Goal type's name, g block's name, golC (.slice va2 K.vars.length vc2) (.slice aa2 K.atoms.length ac2) (.slice ra2 K.ret.length rc2) (.slice ha2 K.hint.length hc2) K new cells (a list), (by simp [golC, Value.oneCell']) proof that each is one cell, w4 world behind. Facts: HEw4 (Ext), HRg (the row), HSg (where it is)
  refine wpList_plain rfl fun K1 hK1 => ?_
  go_simp
  refine hK1 _ _ ?_
  clear hK1 K1
  have hax := Ext.alloc w3 (.cells #[.slice none 0 0, .slice none 0 0, .slice none 0 0, .bool false, .bool false, .bool false, .int .i64 0, .int .i64 0, .slice none 0 0] 39)
  have har : RowAt (w3.alloc (.cells #[.slice none 0 0, .slice none 0 0, .slice none 0 0, .bool false, .bool false, .bool false, .int .i64 0, .int .i64 0, .slice none 0 0] 39)) w3.heap.size 39 (#[.slice none 0 0, .slice none 0 0, .slice none 0 0, .bool false, .bool false, .bool false, .int .i64 0, .int .i64 0, .slice none 0 0]).toList := RowAt.new _ _ _
  refine plain_store rfl _ _ _ rfl w3.heap.size (golC (.slice va2 K.vars.length vc2) (.slice aa2 K.atoms.length ac2) (.slice ra2 K.ret.length rc2) (.slice ha2 K.hint.length hc2) K) rfl rfl har (by kernel_rfl) rfl ((by simp [golC, Value.oneCell'])) ?_
  have hex : Ext w3 ((w3.alloc (.cells #[.slice none 0 0, .slice none 0 0, .slice none 0 0, .bool false, .bool false, .bool false, .int .i64 0, .int .i64 0, .slice none 0 0] 39)).setRow w3.heap.size (golC (.slice va2 K.vars.length vc2) (.slice aa2 K.atoms.length ac2) (.slice ra2 K.ret.length rc2) (.slice ha2 K.hint.length hc2) K).toArray) := below_setRow hax (Nat.le_refl _) _
  have HEw4 := Lib.hid hex
  have HRg := Lib.hid (har.setRow (golC (.slice va2 K.vars.length vc2) (.slice aa2 K.atoms.length ac2) (.slice ra2 K.ret.length rc2) (.slice ha2 K.hint.length hc2) K))
  clear hax har hex
  go_simp
  generalize (w3.alloc (.cells #[.slice none 0 0, .slice none 0 0, .slice none 0 0, .bool false, .bool false, .bool false, .int .i64 0, .int .i64 0, .slice none 0 0] 39)).setRow w3.heap.size (golC (.slice va2 K.vars.length vc2) (.slice aa2 K.atoms.length ac2) (.slice ra2 K.ret.length rc2) (.slice ha2 K.hint.length hc2) K).toArray = w4 at *
  obtain ⟨g, hsg⟩ : ∃ x, w3.heap.size = x := ⟨_, rfl⟩
  rw [hsg] at HRg
  simp only [hsg]
  have HSg := Lib.hid hsg
  clear hsg
  apply wpList_nil
  have HX4 := Lib.hid (HX3.out.trans HEw4.out)
  have HG4 := Lib.hid (HGA.out.ext HEw4.out)
  have HR4 := Lib.hid (show RowAt w4 g 39 (golC (.slice va2 K.vars.length vc2) (.slice aa2 K.atoms.length ac2) (.slice ra2 K.ret.length rc2) (.slice ha2 K.hint.length hc2) K) from HRg.out)
  have HED := Lib.hid (edges_any K _ w4 HG4.out HFT.out.few.1)
  unfold golV at HED
  clear HEw4 HX3 HGA HRg HSg
  go_upto_region 4 with fail
  apply wp_region_lit
  -- a load of a whole row: g block, HR4.out fact RowAt, api.Goal the type's name
  refine plain_load rfl _ _ rfl g rfl _ _ (HR4.out) Tryz.underlying39 rfl (by kernel_rfl) ?_
  go_simp
  -- a call in a plain region: refine HED.out.mono ?_; rintro e w5 ⟨ev, xs, rfl, hxs, hir, hx5⟩ the contract taken, and its results named
  refine wpList_plain rfl fun K1 hK1 => ?_
  go_simp
  refine HED.out.mono ?_; rintro e w5 ⟨ev, xs, rfl, hxs, hir, hx5⟩
  go_simp
  refine hK1 _ _ ?_
  clear hK1 K1
  have hlen : xs.length = K.atoms.length := by have := congrArg List.length hxs; simpa using this
  obtain ⟨ea, ec, rfl⟩ := own_vw hir.1
  rw [hlen]
  have HX5 := Lib.hid (HX4.out.trans hx5)
  have HR5 := Lib.hid (HR4.out.ext hx5)
  have hba : Bnds w5 (.slice aa2 K.atoms.length ac2) K.atoms := by
    obtain ⟨_, _, _, _, e, _, h2, _, _⟩ := HG4.out
    unfold golV golC at e
    simp only [Value.agg.injEq, Array.mk.injEq, List.cons.injEq] at e
    rw [e.2.1]
    exact h2.ext hx5
  have HBA := Lib.hid hba
  have HIR := Lib.hid hir
  have HXS := Lib.hid hxs
  have HLEN := Lib.hid hlen
  have HFEW := Lib.hid HFT.out.few.1
  clear hba hir hxs hlen hx5 HED HR4 HG4 HX4 HFT
  refine wpList_plain rfl fun K1 hK1 => ?_
  go_simp
  refine hK1 _ _ ?_
  clear hK1 K1
  apply wpList_nil
  have r1 := HR5.out.cell (i := 1) rfl
  go_wp2_with fail
  clear r1
  go_loopg [26] K.atoms.length (fun q i wr => ∃ k : Nat, k ≤ K.atoms.length ∧ q = K.atoms.length - k ∧ i = .int .i64 k ∧ Hid (Ext w5 wr))
  case atStart => exact ⟨0, Nat.zero_le _, rfl, rfl, Lib.hid (Ext.refl _)⟩
  case round =>
    obtain ⟨k, hk, hq, rfl, HXR⟩ := hrel
    have Hq := Lib.hid hq
    have hk6 : k ≤ 100000 := by have := HFEW.out; omega
    clear hq
    obtain ⟨wo, hwo⟩ : ∃ x, x = wr := ⟨_, rfl⟩
    subst hwo
    by_cases hlt : k < K.atoms.length
    · have hkx : k < xs.length := by rw [HLEN.out]; exact hlt
      have hrow := Sl.of_own (own_ext HIR.out.1 HXR.out)
      rw [HLEN.out] at hrow
      obtain ⟨b, o, rfl, c0⟩ := Sl.at_ hrow (k := k) (by simpa using hkx)
      have hLr := Sl.of_own (own_ext (HIR.out.2 _ (List.getElem_mem hkx)) HXR.out)
      have hLe : xs[k].2 = edgeF K.atoms[k] := by
        have := congrArg (fun l => l[k]?) HXS.out
        simpa [hkx, hlt] using this
      rw [List.getElem_map] at c0
      rw [hLe] at hLr
      obtain ⟨b2, o2, rfl, e0, e1, e2, e3, e4, e5⟩ := (HBA.out.ext HXR.out).at_ hlt
      have hER := edgeF_row K.atoms[k]
      obtain ⟨L, hL⟩ : ∃ l, edgeF K.atoms[k] = l := ⟨_, rfl⟩
      rw [hL] at hLr hER
      generalize K.atoms[k] = x at *
      clear hrow hLe hL
      obtain ⟨kd, nn, ⟨a1, a2⟩, ⟨b1, b2'⟩⟩ := x
      dsimp only at e0 e1 e2 e3 e4 e5 hER
      obtain ⟨la, lc, hxv, hc1, hc2⟩ := Sl.shape hLr
      rw [hxv] at c0 hLr
      have hLr' : Ints wo .i64 (.slice la L.length lc) L := hLr
      have HLR := Lib.hid hLr'
      have HER := Lib.hid hER
      have hl2 : L.length ≤ 2 := hER.few
      have r1 := (HR5.out.ext HXR.out).cell (i := 1) rfl
      clear hxv hLr hLr' hER
      have HAX := Lib.hid (Ext.alloc wo (.cells #[.int .i64 kd, .int .i64 nn, .int .i64 a1, .int .i64 a2, .int .i64 b1, .int .i64 b2'] 75))
      have HAB := Lib.hid (RowAt.new wo 75 [.int .i64 kd, .int .i64 nn, .int .i64 a1, .int .i64 a2, .int .i64 b1, .int .i64 b2'])
      go_upto_region 11 with fail
      replace HAB : Hid (RowAt (wo.alloc (.cells #[.int .i64 kd, .int .i64 nn, .int .i64 a1, .int .i64 a2, .int .i64 b1, .int .i64 b2'] 75)) wo.heap.size 75 [.int .i64 kd, .int .i64 nn, .int .i64 a1, .int .i64 a2, .int .i64 b1, .int .i64 b2']) := HAB
      generalize wo.alloc (.cells #[.int .i64 kd, .int .i64 nn, .int .i64 a1, .int .i64 a2, .int .i64 b1, .int .i64 b2'] 75) = wb at *
      obtain ⟨t, ht⟩ : ∃ t, wo.heap.size = t := ⟨_, rfl⟩
      rw [ht] at HAB
      simp only [ht]
      clear ht c0 e0 e1 e2 e3 e4 e5 r1
      have HLB := Lib.hid (HLR.out.ext HAX.out)
      have HXB := Lib.hid (HXR.out.trans HAX.out)
      clear HLR HAX HXR
      go_wp2_with fail
      go_loopg [38] L.length (fun q i wr => ∃ j : Nat, j ≤ L.length ∧ q = L.length - j ∧ i = .int .i64 j ∧ Hid (Ext wb wr))
      case atStart => exact ⟨0, Nat.zero_le _, rfl, rfl, Lib.hid (Ext.refl _)⟩
      case round =>
        obtain ⟨j, hj, hq2, rfl, HXJ⟩ := hrel
        have Hq2 := Lib.hid hq2
        clear hq2
        by_cases hltj : j < L.length
        · have hlj := HLB.out.ext HXJ.out
          obtain ⟨b4, o4, rfl, f0⟩ := hlj.at_ hltj
          have hm := HER.out.mem _ (List.getElem_mem hltj)
          have d2 := (HAB.out.ext HXJ.out).cell (i := 2) rfl
          have d4 := (HAB.out.ext HXJ.out).cell (i := 4) rfl
          have hjc : j = 0 ∨ j = 1 := by omega
          rcases hjc with rfl | rfl
          · simp only [Nat.add_zero] at f0
            generalize L[0] = x at *
            obtain ⟨hm0, hm1⟩ := hm
            have hv0 : ¬ x < 0 := by omega
            by_cases hxa : x = a1
            · subst hxa
              clear hm1
              go_wp2_with fail
              go_roundg (L.length - (0 + 1))
              case measure => have := Hq2.out; omega
              case rel => exact ⟨1, by omega, rfl, by first | rfl | go_num, HXJ⟩
            · obtain rfl : x = b1 := by rcases hm1 with h | h; exact absurd h hxa; exact h
              clear hm1
              go_wp2_with fail
              go_roundg (L.length - (0 + 1))
              case measure => have := Hq2.out; omega
              case rel => exact ⟨1, by omega, rfl, by first | rfl | go_num, HXJ⟩
          · obtain ⟨b5, o5, e5, f1⟩ := hlj.at_ (show 0 < L.length by omega)
            cases e5
            simp only [Nat.add_zero] at f1
            have hup := HER.out.up hltj
            generalize L[1] = x at *
            generalize L[0] = x0 at *
            obtain ⟨hm0, hm1⟩ := hm
            have hv0 : ¬ x < 0 := by omega
            have hge : ¬ x0 ≥ x := by omega
            by_cases hxa : x = a1
            · subst hxa
              clear hm1
              go_wp2_with fail
              go_roundg (L.length - (1 + 1))
              case measure => have := Hq2.out; omega
              case rel => exact ⟨2, by omega, rfl, by first | rfl | go_num, HXJ⟩
            · obtain rfl : x = b1 := by rcases hm1 with h | h; exact absurd h hxa; exact h
              clear hm1
              go_wp2_with fail
              go_roundg (L.length - (1 + 1))
              case measure => have := Hq2.out; omega
              case rel => exact ⟨2, by omega, rfl, by first | rfl | go_num, HXJ⟩
        · have he : j = L.length := by omega
          subst he
          have d2 := (HAB.out.ext HXJ.out).cell (i := 2) rfl
          have d4 := (HAB.out.ext HXJ.out).cell (i := 4) rfl
          have hx3 := Ext.alloc wr (.cells #[.int .i64 a1, .int .i64 b1] 3)
          have hr3 : RowAt (wr.alloc (.cells #[.int .i64 a1, .int .i64 b1] 3)) wr.heap.size 3 [.int .i64 a1, .int .i64 b1] := RowAt.new wr _ _
          have HX3 := Lib.hid hx3
          have HR3 := Lib.hid hr3
          clear hx3 hr3
          go_wp2_with fail
          clear d2 d4
          generalize wr.alloc (.cells #[.int .i64 a1, .int .i64 b1] 3) = wt at *
          obtain ⟨z, hz⟩ : ∃ z, wr.heap.size = z := ⟨_, rfl⟩
          rw [hz] at HR3
          simp only [hz]
          clear hz
          have HLT := Lib.hid (HLB.out.ext (HXJ.out.trans HX3.out))
          have HXT := Lib.hid (HXB.out.trans (HXJ.out.trans HX3.out))
          clear HLB HXJ HX3 HXB
          go_loopg [81] 2 (fun q i wr => ∃ m : Nat, m ≤ 2 ∧ q = 2 - m ∧ i = .int .i64 m ∧ Hid (Ext wt wr))
          case atStart => exact ⟨0, Nat.zero_le _, rfl, rfl, Lib.hid (Ext.refl _)⟩
          case round =>
            obtain ⟨m, hm, hq3, rfl, HXM⟩ := hrel
            have Hq3 := Lib.hid hq3
            clear hq3
            have hmc : m = 0 ∨ m = 1 ∨ m = 2 := by omega
            rcases hmc with rfl | rfl | rfl
            · have f0 := (HR3.out.ext HXM.out).cell (i := 0) rfl
              have hct := containsI_any L a1 la lc wr (HLT.out.ext HXM.out) (by omega)
              obtain ⟨B, hB⟩ : ∃ B, decide (a1 ∈ L) = B := ⟨_, rfl⟩
              rw [hB] at hct
              have hB2 : decide (a1 ≥ 0) = B := by
                rw [← hB, decide_eq_decide]
                exact HER.out.a_in.symm
              have HCT := Lib.hid hct
              clear hct hB
              have hne : (B != B) = false := by cases B <;> rfl
              cases B
              · go_wp2_with fail
                refine HCT.out.mono ?_
                rintro e w9 ⟨rfl, rfl⟩
                clear f0
                go_wp2_with fail
                go_roundg (2 - 1)
                case measure => have := Hq3.out; omega
                case rel => exact ⟨1, by omega, rfl, by first | rfl | go_num, HXM⟩
              · go_wp2_with fail
                refine HCT.out.mono ?_
                rintro e w9 ⟨rfl, rfl⟩
                clear f0
                go_wp2_with fail
                go_roundg (2 - 1)
                case measure => have := Hq3.out; omega
                case rel => exact ⟨1, by omega, rfl, by first | rfl | go_num, HXM⟩
            · have f0 := (HR3.out.ext HXM.out).cell (i := 1) rfl
              have hct := containsI_any L b1 la lc wr (HLT.out.ext HXM.out) (by omega)
              obtain ⟨B, hB⟩ : ∃ B, decide (b1 ∈ L) = B := ⟨_, rfl⟩
              rw [hB] at hct
              have hB2 : decide (b1 ≥ 0) = B := by
                rw [← hB, decide_eq_decide]
                exact HER.out.c_in.symm
              have HCT := Lib.hid hct
              clear hct hB
              have hne : (B != B) = false := by cases B <;> rfl
              cases B
              · go_wp2_with fail
                refine HCT.out.mono ?_
                rintro e w9 ⟨rfl, rfl⟩
                clear f0
                go_wp2_with fail
                go_roundg (2 - 2)
                case measure => have := Hq3.out; omega
                case rel => exact ⟨2, by omega, rfl, by first | rfl | go_num, HXM⟩
              · go_wp2_with fail
                refine HCT.out.mono ?_
                rintro e w9 ⟨rfl, rfl⟩
                clear f0
                go_wp2_with fail
                go_roundg (2 - 2)
                case measure => have := Hq3.out; omega
                case rel => exact ⟨2, by omega, rfl, by first | rfl | go_num, HXM⟩
            · have hk6 : k ≤ 100000 := by have := HFEW.out; omega
              go_wp2_with fail
              go_roundg (K.atoms.length - (k + 1))
              case measure => have := Hq.out; omega
              case rel => exact ⟨k + 1, by omega, rfl, by first | rfl | go_num, Lib.hid (HXT.out.trans HXM.out)⟩
    · have he : k = K.atoms.length := by omega
      subst he
      go_wp2_with fail
      go_ret
      exact ⟨rfl, HX5.out.trans HXR.out⟩
end Go.Proofs.YtkmbnghghbfkdaaGreat
