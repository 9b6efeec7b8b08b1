/- The document's state: items: the walk. -/
import Derived.Test.YtngnplghjaojhaaGp32
namespace Go.Proofs.Ytngnplghjaojhaa
set_option maxRecDepth 100000
set_option maxHeartbeats 2000000
set_option linter.unusedSimpArgs false
open Go.RowKit Go.Shelf Go.Sort
attribute [local go_sem] Oper.semAt_some wide_fn wide_depth
set_option linter.unusedVariables false
set_option maxRecDepth 100000 in
set_option maxHeartbeats 8000000 in
theorem items_step {ts : List Tk} {a : Option Addr} {k B op : Nat} (hN : Named ts) (hop : op ≤ 4) (IH : op < 4 → ItemsC ts a k B (op + 1)) : ItemsC ts a k B op := by
  intro w c p A h hp hco hA hB hAl hvl hed
  subst hco
  have hmo : Try.prog.follows .mixedOrders = true := by kernel_rfl
  have HTQ := Lib.hid h
  have HPP := Lib.hid hp
  have HOA := Lib.hid hA
  have HBB := Lib.hid hB
  have HNM := Lib.hid hN
  have HIH := Lib.hid IH
  have HOP := Lib.hid hop
  have HAV := Lib.hid (show A.length ≤ 39 ∧ (varsS A).length ≤ 32 ∧ edgesOf A ≤ 6 from ⟨hAl, hvl, hed⟩)
  clear h hp hA hB hN IH hop hAl hvl hed
  -- a function over a state: colander/colanderref16.items its name, c the state's cells c, p place, false bad
  -- a function with two boxes at its head: colander/colanderref16.items its name, stL c (.slice a ts.length k) p false [.slice none 0 0, .int .i64 0, .bool false, .slice none 0 0, .slice none 0 0, .bool false, .bool false, .bool false, .int .i64 0, .int .i64 0, .slice none 0 0, .int .i64 0] their cells (lists), colanderref16.State colanderref16.State their types' names
  have hbx := boxes2 w (stL c (.slice a ts.length k) p false) 70 ([.slice none 0 0, .int .i64 0, .bool false, .slice none 0 0, .slice none 0 0, .bool false, .bool false, .bool false, .int .i64 0, .int .i64 0, .slice none 0 0, .int .i64 0]) 70
  have HBX := Lib.hid hbx
  clear hbx
  go_enter Try.func32, Try.ntmps32
  go_upto_region 1 with fail
  generalize (w.alloc (.cells (stL c (.slice a ts.length k) p false).toArray 70)).alloc (.cells ([.slice none 0 0, .int .i64 0, .bool false, .slice none 0 0, .slice none 0 0, .bool false, .bool false, .bool false, .int .i64 0, .int .i64 0, .slice none 0 0, .int .i64 0]).toArray 70) = w1 at *
  obtain ⟨y0, hy0⟩ : ∃ x, w.heap.size = x := ⟨_, rfl⟩
  obtain ⟨y1, hy1⟩ : ∃ x, y0 + 1 = x := ⟨_, rfl⟩
  rw [hy0, hy1] at HBX
  simp only [hy0, hy1]
  have HN := Lib.hid (show w.heap.size = y0 ∧ y0 + 1 = y1 from ⟨hy0, hy1⟩)
  have HX := Lib.hid HBX.out.1
  have H0 := Lib.hid HBX.out.2.1
  have H1 := Lib.hid HBX.out.2.2
  clear hy0 hy1 HBX
  go_loopg [6] (ts.length + 1 - p) (fun g s6 wr => ∃ p' A', g = ts.length + 1 - p' ∧ ItSI w ts a k B c y0 y1 p A p' A' wr)
  case atStart => exact ⟨p, A, rfl, c.a1, c.n1, c.k1, HX.out, H0.out, H1.out, own_ext HOA.out HX.out, HPP.out, HAV.out.1, HAV.out.2.1, HAV.out.2.2, fun r h => h⟩
  case round =>
    obtain ⟨p1, A1, hg, x1, x2, x3, hx, h0, h1, ho, hp1, ha1, hv1, he1, hback⟩ := hrel
    clear HX H0 H1 HOA HPP HAV
    have HX := Lib.hid hx
    have H1 := Lib.hid h1
    have HG := Lib.hid hg
    have HP1 := Lib.hid hp1
    have HAV := Lib.hid (show A1.length ≤ 39 ∧ (varsS A1).length ≤ 32 ∧ edgesOf A1 ≤ 6 from ⟨ha1, hv1, he1⟩)
    have HBK := Lib.hid hback
    obtain ⟨c1, hc1⟩ : ∃ c1 : Sc, { c with a1 := x1, n1 := x2, k1 := x3 } = c1 := ⟨_, rfl⟩
    rw [hc1] at h0
    have H0 := Lib.hid h0
    have HOA := Lib.hid (show wr.ownsRow B 64 7 (.slice c1.a1 c1.n1 c1.k1) A1.length (A1.flatMap atCells) by rw [← hc1]; exact ho)
    have HC1 := Lib.hid hc1
    clear hx h0 h1 ho hg hp1 ha1 hv1 he1 hback hc1
    obtain ⟨⟨p2, b2, s2⟩, hr2⟩ : ∃ r, takeR ts 4 p1 false = r := ⟨_, rfl⟩
    have HR2 := Lib.hid hr2
    have HP2 := Lib.hid (show p2 ≤ ts.length by have h := takeR_le HP1.out (q := 4) (by decide) false; rw [hr2] at h; exact h)
    clear hr2
    go_upto_region 1 with fail
    go_cut [6] (fun s6 wx => RwS w ts a k B c1 y0 y1 A1 p2 b2 wx)
    case first =>
      -- the document's state in box y0 is handed to take, and what comes is put back (the region's operations up to the store): c1 the state's cells c, p1 place, false bad, 4 kind, HP1.out place within, p3 new place, b3 new bad, x3' the text, w2 world behind. Facts: HTQ, HX, H0, H1, HN
      have htk := takeQ (HTQ.out.ext HX.out) (HP1.out) c1 false 4 (by decide)
      obtain ⟨⟨p3, b3, x3'⟩, hr⟩ : ∃ r, takeR ts 4 p1 false = r := ⟨_, rfl⟩
      rw [hr] at htk
      dsimp only at htk
      have HTK := Lib.hid htk
      have HRp3 := Lib.hid hr
      have HPp3 := Lib.hid (show p3 ≤ ts.length by have h := takeR_le (ts := ts) (HP1.out) (q := 4) (by decide) false; rw [hr] at h; exact h)
      clear htk hr
      apply wp_region_lit
      -- a load of a whole row: y0 block, H0.out fact RowAt, colanderref16.State the type's name
      refine plain_load rfl _ _ rfl y0 rfl _ _ (H0.out) Try.underlying70 rfl (by kernel_rfl) ?_
      go_simp
      -- a call in a plain region: refine HTK.out.mono ?_; rintro e wt ⟨rfl, hxt⟩ the contract taken, and its results named
      refine wpList_plain rfl fun K1 hK1 => ?_
      go_simp
      refine HTK.out.mono ?_; rintro e wt ⟨rfl, hxt⟩
      go_simp
      refine hK1 _ _ ?_
      clear hK1 K1
      -- memory has been made
      replace HX := Lib.hid (HX.out.trans hxt)
      replace H0 := Lib.hid (H0.out.ext hxt)
      replace H1 := Lib.hid (H1.out.ext hxt)
      try replace H2 := Lib.hid (H2.out.ext hxt)
      try replace H3 := Lib.hid (H3.out.ext hxt)
      try replace HS4 := Lib.hid (Strs.ext HS4.out hxt)
      try replace HOA := Lib.hid (own_ext HOA.out hxt)
      try replace HOR := Lib.hid (own_ext HOR.out hxt)
      try replace HOH := Lib.hid (own_ext HOH.out hxt)
      clear hxt
      refine wpList_plain rfl fun K1 hK1 => ?_
      go_simp
      refine hK1 _ _ ?_
      clear hK1 K1
      refine wpList_plain rfl fun K1 hK1 => ?_
      go_simp
      refine hK1 _ _ ?_
      clear hK1 K1
      refine wpList_plain rfl fun K1 hK1 => ?_
      go_simp
      refine hK1 _ _ ?_
      clear hK1 K1
      -- a state's row is put into box y0: (c1) cells, p3 place, b3 bad, wt world, w2 world behind
      refine plain_store rfl _ _ _ rfl y0 (stL (c1) (.slice a ts.length k) p3 b3) rfl rfl (H0.out) (by kernel_rfl) rfl (stL_one (c1) _ _ _ _ _) ?_
      go_simp
      replace HX := Lib.hid (show Ext w (wt.setRow y0 (stL (c1) (.slice a ts.length k) p3 b3).toArray) from below_setRow HX.out (by have := HN.out; omega) _)
      replace H1 := Lib.hid (row_far H1.out (stL (c1) (.slice a ts.length k) p3 b3).toArray (show y1 ≠ y0 by have := HN.out; omega))
      try replace HOA := Lib.hid (own_turn HOA.out H0.out (by decide) (setRow_grown wt y0 (stL (c1) (.slice a ts.length k) p3 b3).toArray))
      try replace HOR := Lib.hid (own_turn HOR.out H0.out (by decide) (setRow_grown wt y0 (stL (c1) (.slice a ts.length k) p3 b3).toArray))
      try replace HOH := Lib.hid (own_turn HOH.out H0.out (by decide) (setRow_grown wt y0 (stL (c1) (.slice a ts.length k) p3 b3).toArray))
      replace H0 := Lib.hid (H0.out.setRow (stL (c1) (.slice a ts.length k) p3 b3))
      try replace H2 := Lib.hid (row_far H2.out (stL (c1) (.slice a ts.length k) p3 b3).toArray (show y2 ≠ y0 by have := HN.out; omega))
      try replace HS4 := Lib.hid (HF4.out.stay HS4.out (y := y0) (by have := HN.out; omega) (stL (c1) (.slice a ts.length k) p3 b3).toArray)
      generalize wt.setRow y0 (stL (c1) (.slice a ts.length k) p3 b3).toArray = w2 at *
      clear HTK
      apply wpList_nil
      go_wp2_with fail
      go_meet
      have he := HRp3.out.symm.trans HR2.out
      cases he
      exact ⟨HX.out, H0.out, H1.out, HOA.out⟩
    case rest =>
      -- items: the facts of a cut's world are laid anew: hcut the fact RwS, w2 world's name
      obtain ⟨w2, rfl⟩ : ∃ z, z = wc := ⟨_, rfl⟩
      clear HX H0 H1 HOA
      have HX := Lib.hid (hcut).ext
      have H0 := Lib.hid (hcut).r0
      have H1 := Lib.hid (hcut).r1
      have HOA := Lib.hid (hcut).own
      clear hcut
      obtain ⟨C4, hC4⟩ : ∃ b, (!b2 && decide (kindAt ts p2 = 4)) = b := ⟨_, rfl⟩
      have HC4 := Lib.hid hC4
      clear hC4
      go_upto_region 2 with fail
      go_cut [15] (fun s15 wx => s15 = .bool C4 ∧ Ext w2 wx)
      case first =>
        -- the test of a region '!s.Bad && kind(s) == K': HC4 the fact on its value, p2 place, b2 bad, HP2.out place within
        cases b2 with
        | true =>
          have hc := HC4.out
          rw [Bool.not_true, Bool.false_and] at hc
          subst hc
          have d2 := H0.out.cell (i := 2) rfl
          go_wp2_with fail
          go_meet
          exact ⟨rfl, Ext.refl _⟩
        | false =>
          have hc := HC4.out
          rw [Bool.not_false, Bool.true_and] at hc
          subst hc
          have HKQ := Lib.hid (kindQ (HTQ.out.ext HX.out) (HP2.out) c1 false)
          obtain ⟨f0, f1, f2, f3, f4, f5, f6, f7, f8, f9, f10, f11⟩ := stQ_facts H0.out
          go_wp2_with fail
          refine HKQ.out.mono ?_
          rintro e wk ⟨rfl, hxk⟩
          have HXK := Lib.hid hxk
          clear f0 f1 f2 f3 f4 f5 f6 f7 f8 f9 f10 f11
          clear hxk
          go_wp2_with fail
          go_meet
          exact ⟨congrArg Value.bool (by first | rfl | simp), HXK.out⟩
      case rest =>
        obtain ⟨rfl, hxc⟩ := hcut
        obtain ⟨w3, rfl⟩ : ∃ z, z = wc := ⟨_, rfl⟩
        -- memory has been made
        replace HX := Lib.hid (HX.out.trans hxc)
        replace H0 := Lib.hid (H0.out.ext hxc)
        replace H1 := Lib.hid (H1.out.ext hxc)
        try replace H2 := Lib.hid (H2.out.ext hxc)
        try replace H3 := Lib.hid (H3.out.ext hxc)
        try replace HS4 := Lib.hid (Strs.ext HS4.out hxc)
        try replace HOA := Lib.hid (own_ext HOA.out hxc)
        try replace HOR := Lib.hid (own_ext HOR.out hxc)
        try replace HOH := Lib.hid (own_ext HOH.out hxc)
        clear hxc
        go_upto_if 15 with fail
        go_cut [15] (fun s15 wx => ItSO w ts a k B c y0 y1 p1 A1 wx)
        case first =>
          cases C4 with
          | true =>
            have hb : b2 = false ∧ kindAt ts p2 = 4 := by have h := HC4.out; simpa using h
            obtain ⟨rfl, hk4⟩ := hb
            obtain ⟨rfl, hlt, hff, hk1, hs1⟩ := takeR_good (by decide) HR2.out
            have HK4 := Lib.hid (show kindAt ts p1 = 4 ∧ kindAt ts (p1 + 1) = 4 from ⟨hk1, hk4⟩)
            clear hk4 hk1 hs1 hff hlt
            have d11 := H0.out.cell (i := 11) rfl
            rw [show c1.op = c.op by rw [← HC1.out]] at d11
            by_cases h4 : c.op = 4
            · have HH4 := Lib.hid h4
              have hq4 : ((c.op : Int) == 4) = true := by rw [h4]; rfl
              clear h4
              go_upto_region 4 with fail
              clear d11 hq4
              apply wp_region_lit
              -- a cell of the state's own box is written by the region at hand: 2 its place, (.bool true) the value, c1 cells c behind, (p1 + 1) place p behind, true bad behind, w3 world, w4 world behind
              have ff := H0.out.frozen 2
              have dd := H0.out.cell (i := 2) rfl
              refine wpList_plain rfl fun K1 hK1 => ?_
              go_simp
              refine hK1 _ _ ?_
              clear hK1 K1
              refine wpList_plain rfl fun K1 hK1 => ?_
              go_simp
              refine hK1 _ _ ?_
              clear hK1 K1
              have hs := Lib.hid (show RowAt (w3.setCell ⟨y0, 2, none⟩ ((.bool true))) y0 70 (stL c1 (.slice a ts.length k) (p1 + 1) true) from H0.out.set 2 ((.bool true)))
              try replace HOA := Lib.hid (own_turn HOA.out H0.out (by decide) (grown_set w3 y0 2 ((.bool true))))
              try replace HOR := Lib.hid (own_turn HOR.out H0.out (by decide) (grown_set w3 y0 2 ((.bool true))))
              try replace HOH := Lib.hid (own_turn HOH.out H0.out (by decide) (grown_set w3 y0 2 ((.bool true))))
              replace H1 := Lib.hid (row_setk H1.out (z := y0) (by have := HN.out; omega) 2 ((.bool true)))
              replace HX := Lib.hid (show Ext w (w3.setCell ⟨y0, 2, none⟩ ((.bool true))) from Ext.set_of HX.out (by have := HN.out; omega) _)
              clear ff dd H0
              have H0 := hs
              clear hs
              generalize w3.setCell ⟨y0, 2, none⟩ ((.bool true)) = w4 at *
              apply wpList_nil
              go_upto_region 5 with fail
              -- items: the state is handed back: c1 cells, (p1 + 1) place, true bad, w4 world, A1 atoms, x1 x2 x3 the row's parts,  proof on what it comes to
              -- the state of box y0 is handed on in box y1: c1 cells, (p1 + 1) place, true bad, w4 world, wend world behind (the region's load and store)
              apply wp_region_lit
              -- a load of a whole row: y0 block, H0.out fact RowAt, colanderref16.State the type's name
              refine plain_load rfl _ _ rfl y0 rfl _ _ (H0.out) Try.underlying70 rfl (by kernel_rfl) ?_
              go_simp
              refine plain_store rfl _ _ _ rfl y1 (stL c1 (.slice a ts.length k) (p1 + 1) true) rfl rfl (H1.out) (by kernel_rfl) rfl (stL_one c1 _ _ _ _ _) ?_
              go_simp
              replace HX := Lib.hid (show Ext w (w4.setRow y1 (stL c1 (.slice a ts.length k) (p1 + 1) true).toArray) from below_setRow HX.out (by have := HN.out; omega) _)
              try replace HOA := Lib.hid (own_turn HOA.out H1.out (by decide) (setRow_grown w4 y1 (stL c1 (.slice a ts.length k) (p1 + 1) true).toArray))
              try replace HOR := Lib.hid (own_turn HOR.out H1.out (by decide) (setRow_grown w4 y1 (stL c1 (.slice a ts.length k) (p1 + 1) true).toArray))
              try replace HOH := Lib.hid (own_turn HOH.out H1.out (by decide) (setRow_grown w4 y1 (stL c1 (.slice a ts.length k) (p1 + 1) true).toArray))
              replace H1 := Lib.hid (H1.out.setRow (stL c1 (.slice a ts.length k) (p1 + 1) true))
              clear H0
              generalize w4.setRow y1 (stL c1 (.slice a ts.length k) (p1 + 1) true).toArray = wend at *
              apply wpList_nil
              go_wp2_with fail
              refine bodyPost_ret (results_row0 rfl rfl H1.out Try.underlying70 rfl (by kernel_rfl)) rfl ⟨x1, x2, x3, (p1 + 1), true, A1, ?_, ?_, ?_, ?_, HX.out⟩
              · rw [HC1.out]
              · have h := HOA.out; rw [← HC1.out] at h; exact h
              · exact ⟨HP2.out, by have := HAV.out; omega⟩
              · exact ⟨.error (p1 + 1), HBK.out _ (ItemsR.bad (ItemR.deep HK4.out.1 HK4.out.2 HH4.out)), rfl, rfl⟩
            · have HH4 := Lib.hid h4
              have hq4 : ((c.op : Int) == 4) = false := by rw [beq_eq_false_iff_ne]; omega
              have hwo : IntKind.i64.wrap ((c.op : Int) + 1) = (c.op : Int) + 1 := IntWalk.i64_in _ (by have := HOP.out; omega)
              clear h4
              have ff := H0.out.frozen 11
              have dd := d11
              clear d11
              go_upto_region 6 with fail
              clear hq4
              apply wp_region_lit
              refine wpList_plain rfl fun K1 hK1 => ?_
              go_simp
              refine hK1 _ _ ?_
              clear hK1 K1
              refine wpList_plain rfl fun K1 hK1 => ?_
              go_simp
              refine hK1 _ _ ?_
              clear hK1 K1
              refine wpList_plain rfl fun K1 hK1 => ?_
              go_simp
              refine hK1 _ _ ?_
              clear hK1 K1
              refine wpList_plain rfl fun K1 hK1 => ?_
              go_simp
              refine hK1 _ _ ?_
              clear hK1 K1
              refine wpList_plain rfl fun K1 hK1 => ?_
              go_simp
              refine hK1 _ _ ?_
              clear hK1 K1
              have hs := Lib.hid (show RowAt (w3.setCell ⟨y0, 11, none⟩ ((.int .i64 ((c.op : Int) + 1)))) y0 70 (stL { c1 with op := c.op + 1 } (.slice a ts.length k) (p1 + 1) false) from H0.out.set 11 ((.int .i64 ((c.op : Int) + 1))))
              try replace HOA := Lib.hid (own_turn HOA.out H0.out (by decide) (grown_set w3 y0 11 ((.int .i64 ((c.op : Int) + 1)))))
              try replace HOR := Lib.hid (own_turn HOR.out H0.out (by decide) (grown_set w3 y0 11 ((.int .i64 ((c.op : Int) + 1)))))
              try replace HOH := Lib.hid (own_turn HOH.out H0.out (by decide) (grown_set w3 y0 11 ((.int .i64 ((c.op : Int) + 1)))))
              replace H1 := Lib.hid (row_setk H1.out (z := y0) (by have := HN.out; omega) 11 ((.int .i64 ((c.op : Int) + 1))))
              replace HX := Lib.hid (show Ext w (w3.setCell ⟨y0, 11, none⟩ ((.int .i64 ((c.op : Int) + 1)))) from Ext.set_of HX.out (by have := HN.out; omega) _)
              clear ff dd H0
              have H0 := hs
              clear hs
              generalize w3.setCell ⟨y0, 11, none⟩ ((.int .i64 ((c.op : Int) + 1))) = w4 at *
              clear hwo
              apply wpList_nil
              obtain ⟨c2, hc2⟩ : ∃ c2 : Sc, { c1 with op := c.op + 1 } = c2 := ⟨_, rfl⟩
              rw [hc2] at H0
              have HC2 := Lib.hid hc2
              clear hc2
              have hit := HIH.out (by have := HOP.out; have := HH4.out; omega) w4 c2 (p1 + 1) A1 (HTQ.out.ext HX.out) HP2.out (by rw [← HC2.out]) (by have h := HOA.out; rw [← HC2.out]; exact h) (Nat.le_trans HBB.out HX.out.size) HAV.out.1 HAV.out.2.1 HAV.out.2.2
              have HIT := Lib.hid hit
              clear hit HOA
              go_upto_region 7 with fail
              apply wp_region_lit
              -- a load of a whole row: y0 block, H0.out fact RowAt, colanderref16.State the type's name
              refine plain_load rfl _ _ rfl y0 rfl _ _ (H0.out) Try.underlying70 rfl (by kernel_rfl) ?_
              go_simp
              -- a call in a plain region: refine HIT.out.mono ?_; rintro e w5 ⟨z1, z2, z3, q, qb, A2, rfl, ho2, hqb2, hrr, hx5⟩ the contract taken, and its results named
              refine wpList_plain rfl fun K1 hK1 => ?_
              go_simp
              refine HIT.out.mono ?_; rintro e w5 ⟨z1, z2, z3, q, qb, A2, rfl, ho2, hqb2, hrr, hx5⟩
              go_simp
              refine hK1 _ _ ?_
              clear hK1 K1
              -- memory has been made
              replace HX := Lib.hid (HX.out.trans hx5)
              replace H0 := Lib.hid (H0.out.ext hx5)
              replace H1 := Lib.hid (H1.out.ext hx5)
              try replace H2 := Lib.hid (H2.out.ext hx5)
              try replace H3 := Lib.hid (H3.out.ext hx5)
              try replace HS4 := Lib.hid (Strs.ext HS4.out hx5)
              try replace HOA := Lib.hid (own_ext HOA.out hx5)
              try replace HOR := Lib.hid (own_ext HOR.out hx5)
              try replace HOH := Lib.hid (own_ext HOH.out hx5)
              clear hx5
              have HOA := Lib.hid ho2
              have HQ := Lib.hid hqb2
              have HRR := Lib.hid hrr
              clear ho2 hqb2 hrr HIT
              -- a state's row is put into box y0: ({ c2 with a1 := z1, n1 := z2, k1 := z3 }) cells, q place, qb bad, w5 world, w6 world behind
              refine plain_store rfl _ _ _ rfl y0 (stL ({ c2 with a1 := z1, n1 := z2, k1 := z3 }) (.slice a ts.length k) q qb) rfl rfl (H0.out) (by kernel_rfl) rfl (stL_one ({ c2 with a1 := z1, n1 := z2, k1 := z3 }) _ _ _ _ _) ?_
              go_simp
              replace HX := Lib.hid (show Ext w (w5.setRow y0 (stL ({ c2 with a1 := z1, n1 := z2, k1 := z3 }) (.slice a ts.length k) q qb).toArray) from below_setRow HX.out (by have := HN.out; omega) _)
              replace H1 := Lib.hid (row_far H1.out (stL ({ c2 with a1 := z1, n1 := z2, k1 := z3 }) (.slice a ts.length k) q qb).toArray (show y1 ≠ y0 by have := HN.out; omega))
              try replace HOA := Lib.hid (own_turn HOA.out H0.out (by decide) (setRow_grown w5 y0 (stL ({ c2 with a1 := z1, n1 := z2, k1 := z3 }) (.slice a ts.length k) q qb).toArray))
              try replace HOR := Lib.hid (own_turn HOR.out H0.out (by decide) (setRow_grown w5 y0 (stL ({ c2 with a1 := z1, n1 := z2, k1 := z3 }) (.slice a ts.length k) q qb).toArray))
              try replace HOH := Lib.hid (own_turn HOH.out H0.out (by decide) (setRow_grown w5 y0 (stL ({ c2 with a1 := z1, n1 := z2, k1 := z3 }) (.slice a ts.length k) q qb).toArray))
              replace H0 := Lib.hid (H0.out.setRow (stL ({ c2 with a1 := z1, n1 := z2, k1 := z3 }) (.slice a ts.length k) q qb))
              try replace H2 := Lib.hid (row_far H2.out (stL ({ c2 with a1 := z1, n1 := z2, k1 := z3 }) (.slice a ts.length k) q qb).toArray (show y2 ≠ y0 by have := HN.out; omega))
              try replace HS4 := Lib.hid (HF4.out.stay HS4.out (y := y0) (by have := HN.out; omega) (stL ({ c2 with a1 := z1, n1 := z2, k1 := z3 }) (.slice a ts.length k) q qb).toArray)
              generalize w5.setRow y0 (stL ({ c2 with a1 := z1, n1 := z2, k1 := z3 }) (.slice a ts.length k) q qb).toArray = w6 at *
              apply wpList_nil
              obtain ⟨c3, hc3⟩ : ∃ c3 : Sc, { c2 with a1 := z1, n1 := z2, k1 := z3 } = c3 := ⟨_, rfl⟩
              rw [hc3] at H0
              have HC3 := Lib.hid hc3
              clear hc3
              have d11 := H0.out.cell (i := 11) rfl
              have dd : w6.cell? ⟨y0, 11, none⟩ = some (.int .i64 ((c.op : Int) + 1)) := by rw [← HC3.out, ← HC2.out] at d11; exact d11
              have ff := H0.out.frozen 11
              have hwo : IntKind.i64.wrap (c.op : Int) = (c.op : Int) := IntWalk.i64_in _ (by have := HOP.out; omega)
              clear d11
              go_upto_region 8 with fail
              apply wp_region_lit
              refine wpList_plain rfl fun K1 hK1 => ?_
              go_simp
              refine hK1 _ _ ?_
              clear hK1 K1
              refine wpList_plain rfl fun K1 hK1 => ?_
              go_simp
              refine hK1 _ _ ?_
              clear hK1 K1
              refine wpList_plain rfl fun K1 hK1 => ?_
              go_simp
              refine hK1 _ _ ?_
              clear hK1 K1
              refine wpList_plain rfl fun K1 hK1 => ?_
              go_simp
              refine hK1 _ _ ?_
              clear hK1 K1
              refine wpList_plain rfl fun K1 hK1 => ?_
              go_simp
              refine hK1 _ _ ?_
              clear hK1 K1
              have hs := Lib.hid (show RowAt (w6.setCell ⟨y0, 11, none⟩ ((.int .i64 (c.op : Int)))) y0 70 (stL { c3 with op := c.op } (.slice a ts.length k) q qb) from H0.out.set 11 ((.int .i64 (c.op : Int))))
              try replace HOA := Lib.hid (own_turn HOA.out H0.out (by decide) (grown_set w6 y0 11 ((.int .i64 (c.op : Int)))))
              try replace HOR := Lib.hid (own_turn HOR.out H0.out (by decide) (grown_set w6 y0 11 ((.int .i64 (c.op : Int)))))
              try replace HOH := Lib.hid (own_turn HOH.out H0.out (by decide) (grown_set w6 y0 11 ((.int .i64 (c.op : Int)))))
              replace H1 := Lib.hid (row_setk H1.out (z := y0) (by have := HN.out; omega) 11 ((.int .i64 (c.op : Int))))
              replace HX := Lib.hid (show Ext w (w6.setCell ⟨y0, 11, none⟩ ((.int .i64 (c.op : Int)))) from Ext.set_of HX.out (by have := HN.out; omega) _)
              clear ff dd H0
              have H0 := hs
              clear hs
              generalize w6.setCell ⟨y0, 11, none⟩ ((.int .i64 (c.op : Int))) = w7 at *
              clear hwo
              apply wpList_nil
              obtain ⟨c4, hc4⟩ : ∃ c4 : Sc, { c3 with op := c.op } = c4 := ⟨_, rfl⟩
              rw [hc4] at H0
              have HC4' := Lib.hid (show { c with a1 := z1, n1 := z2, k1 := z3 } = c4 by rw [← hc4, ← HC3.out, ← HC2.out, ← HC1.out])
              clear hc4
              go_upto_region 9 with fail
              -- the document's state in box y0 is handed to take, and what comes is put back (the region's operations up to the store): c4 the state's cells c, q place, qb bad, 5 kind, HQ.out.1 place within, q2 new place, qb2 new bad, s2' the text, w8 world behind. Facts: HTQ, HX, H0, H1, HN
              have htk := takeQ (HTQ.out.ext HX.out) (HQ.out.1) c4 qb 5 (by decide)
              obtain ⟨⟨q2, qb2, s2'⟩, hr⟩ : ∃ r, takeR ts 5 q qb = r := ⟨_, rfl⟩
              rw [hr] at htk
              dsimp only at htk
              have HTK := Lib.hid htk
              have HRq2 := Lib.hid hr
              have HPq2 := Lib.hid (show q2 ≤ ts.length by have h := takeR_le (ts := ts) (HQ.out.1) (q := 5) (by decide) qb; rw [hr] at h; exact h)
              clear htk hr
              apply wp_region_lit
              -- a load of a whole row: y0 block, H0.out fact RowAt, colanderref16.State the type's name
              refine plain_load rfl _ _ rfl y0 rfl _ _ (H0.out) Try.underlying70 rfl (by kernel_rfl) ?_
              go_simp
              -- a call in a plain region: refine HTK.out.mono ?_; rintro e wt ⟨rfl, hxt⟩ the contract taken, and its results named
              refine wpList_plain rfl fun K1 hK1 => ?_
              go_simp
              refine HTK.out.mono ?_; rintro e wt ⟨rfl, hxt⟩
              go_simp
              refine hK1 _ _ ?_
              clear hK1 K1
              -- memory has been made
              replace HX := Lib.hid (HX.out.trans hxt)
              replace H0 := Lib.hid (H0.out.ext hxt)
              replace H1 := Lib.hid (H1.out.ext hxt)
              try replace H2 := Lib.hid (H2.out.ext hxt)
              try replace H3 := Lib.hid (H3.out.ext hxt)
              try replace HS4 := Lib.hid (Strs.ext HS4.out hxt)
              try replace HOA := Lib.hid (own_ext HOA.out hxt)
              try replace HOR := Lib.hid (own_ext HOR.out hxt)
              try replace HOH := Lib.hid (own_ext HOH.out hxt)
              clear hxt
              refine wpList_plain rfl fun K1 hK1 => ?_
              go_simp
              refine hK1 _ _ ?_
              clear hK1 K1
              refine wpList_plain rfl fun K1 hK1 => ?_
              go_simp
              refine hK1 _ _ ?_
              clear hK1 K1
              refine wpList_plain rfl fun K1 hK1 => ?_
              go_simp
              refine hK1 _ _ ?_
              clear hK1 K1
              -- a state's row is put into box y0: (c4) cells, q2 place, qb2 bad, wt world, w8 world behind
              refine plain_store rfl _ _ _ rfl y0 (stL (c4) (.slice a ts.length k) q2 qb2) rfl rfl (H0.out) (by kernel_rfl) rfl (stL_one (c4) _ _ _ _ _) ?_
              go_simp
              replace HX := Lib.hid (show Ext w (wt.setRow y0 (stL (c4) (.slice a ts.length k) q2 qb2).toArray) from below_setRow HX.out (by have := HN.out; omega) _)
              replace H1 := Lib.hid (row_far H1.out (stL (c4) (.slice a ts.length k) q2 qb2).toArray (show y1 ≠ y0 by have := HN.out; omega))
              try replace HOA := Lib.hid (own_turn HOA.out H0.out (by decide) (setRow_grown wt y0 (stL (c4) (.slice a ts.length k) q2 qb2).toArray))
              try replace HOR := Lib.hid (own_turn HOR.out H0.out (by decide) (setRow_grown wt y0 (stL (c4) (.slice a ts.length k) q2 qb2).toArray))
              try replace HOH := Lib.hid (own_turn HOH.out H0.out (by decide) (setRow_grown wt y0 (stL (c4) (.slice a ts.length k) q2 qb2).toArray))
              replace H0 := Lib.hid (H0.out.setRow (stL (c4) (.slice a ts.length k) q2 qb2))
              try replace H2 := Lib.hid (row_far H2.out (stL (c4) (.slice a ts.length k) q2 qb2).toArray (show y2 ≠ y0 by have := HN.out; omega))
              try replace HS4 := Lib.hid (HF4.out.stay HS4.out (y := y0) (by have := HN.out; omega) (stL (c4) (.slice a ts.length k) q2 qb2).toArray)
              generalize wt.setRow y0 (stL (c4) (.slice a ts.length k) q2 qb2).toArray = w8 at *
              clear HTK
              apply wpList_nil
              go_wp2_with fail
              go_meet
              obtain ⟨r, hi, hrs⟩ := HRR.out
              obtain ⟨r', hit', hrs'⟩ := group_res HK4.out.1 HK4.out.2 HH4.out hi hrs HRq2.out
              exact ⟨z1, z2, z3, q2, qb2, A2, HX.out, by rw [HC4'.out]; exact H0.out, H1.out, HOA.out, HPq2.out, HQ.out.2, r', hit', hrs', hit'.bd hrs' HAV.out.1 HAV.out.2.1 HAV.out.2.2⟩
          | false =>
            cases b2 with
            | true =>
              have d2 := H0.out.cell (i := 2) rfl
              go_wp2_with fail
              go_meet
              have hr := HR2.out
              unfold takeR at hr
              split at hr
              · cases hr
              · rename_i hh
                cases hr
                have hit : ItemR ts c.op ⟨p1, A1, varsS A1⟩ (.error p1) := ItemR.no (fun e => hh ⟨rfl, e⟩)
                exact ⟨x1, x2, x3, p1, true, A1, HX.out, by rw [HC1.out]; exact H0.out, H1.out, by have h := HOA.out; rw [← HC1.out] at h; exact h, HP1.out, by have := HAV.out; omega, _, hit, ⟨rfl, rfl⟩, fun e => by cases e⟩
            | false =>
              have hk4 : kindAt ts p2 ≠ 4 := by have h := HC4.out; simpa using h
              obtain ⟨rfl, hlt, hff, hk1, hs1⟩ := takeR_good (by decide) HR2.out
              have HK4 := Lib.hid (show kindAt ts p1 = 4 ∧ kindAt ts (p1 + 1) ≠ 4 from ⟨hk1, hk4⟩)
              clear hk4 hk1 hs1 hff hlt
              have hat := anAtomQ (HTQ.out.ext HX.out) HP2.out c1 A1 B HOA.out (Nat.le_trans HBB.out HX.out.size) (by have := HAV.out; omega) (by have := HAV.out; omega)
              have hle := anAtomF_le A1 HP2.out
              have hrs := anAtomF_res HNM.out A1 (p1 + 1) HAV.out.2.1
              obtain ⟨⟨q, qb, A2⟩, hq⟩ : ∃ r, anAtomF ts A1 (p1 + 1) = r := ⟨_, rfl⟩
              rw [hq] at hat hle hrs
              dsimp only at hat hle hrs
              have HIT := Lib.hid hat
              have HLE := Lib.hid hle
              have HRS := Lib.hid hrs
              clear hat hle hrs hq HOA
              have d2 := H0.out.cell (i := 2) rfl
              go_upto_region 11 with fail
              clear d2
              apply wp_region_lit
              -- a load of a whole row: y0 block, H0.out fact RowAt, colanderref16.State the type's name
              refine plain_load rfl _ _ rfl y0 rfl _ _ (H0.out) Try.underlying70 rfl (by kernel_rfl) ?_
              go_simp
              -- a call in a plain region: refine HIT.out.mono ?_; rintro e w5 ⟨z1, z2, z3, rfl, ho2, hx5⟩ the contract taken, and its results named
              refine wpList_plain rfl fun K1 hK1 => ?_
              go_simp
              refine HIT.out.mono ?_; rintro e w5 ⟨z1, z2, z3, rfl, ho2, hx5⟩
              go_simp
              refine hK1 _ _ ?_
              clear hK1 K1
              -- memory has been made
              replace HX := Lib.hid (HX.out.trans hx5)
              replace H0 := Lib.hid (H0.out.ext hx5)
              replace H1 := Lib.hid (H1.out.ext hx5)
              try replace H2 := Lib.hid (H2.out.ext hx5)
              try replace H3 := Lib.hid (H3.out.ext hx5)
              try replace HS4 := Lib.hid (Strs.ext HS4.out hx5)
              try replace HOA := Lib.hid (own_ext HOA.out hx5)
              try replace HOR := Lib.hid (own_ext HOR.out hx5)
              try replace HOH := Lib.hid (own_ext HOH.out hx5)
              clear hx5
              have HOA := Lib.hid ho2
              clear ho2 HIT
              -- a state's row is put into box y0: ({ c1 with a1 := z1, n1 := z2, k1 := z3 }) cells, q place, qb bad, w5 world, w6 world behind
              refine plain_store rfl _ _ _ rfl y0 (stL ({ c1 with a1 := z1, n1 := z2, k1 := z3 }) (.slice a ts.length k) q qb) rfl rfl (H0.out) (by kernel_rfl) rfl (stL_one ({ c1 with a1 := z1, n1 := z2, k1 := z3 }) _ _ _ _ _) ?_
              go_simp
              replace HX := Lib.hid (show Ext w (w5.setRow y0 (stL ({ c1 with a1 := z1, n1 := z2, k1 := z3 }) (.slice a ts.length k) q qb).toArray) from below_setRow HX.out (by have := HN.out; omega) _)
              replace H1 := Lib.hid (row_far H1.out (stL ({ c1 with a1 := z1, n1 := z2, k1 := z3 }) (.slice a ts.length k) q qb).toArray (show y1 ≠ y0 by have := HN.out; omega))
              try replace HOA := Lib.hid (own_turn HOA.out H0.out (by decide) (setRow_grown w5 y0 (stL ({ c1 with a1 := z1, n1 := z2, k1 := z3 }) (.slice a ts.length k) q qb).toArray))
              try replace HOR := Lib.hid (own_turn HOR.out H0.out (by decide) (setRow_grown w5 y0 (stL ({ c1 with a1 := z1, n1 := z2, k1 := z3 }) (.slice a ts.length k) q qb).toArray))
              try replace HOH := Lib.hid (own_turn HOH.out H0.out (by decide) (setRow_grown w5 y0 (stL ({ c1 with a1 := z1, n1 := z2, k1 := z3 }) (.slice a ts.length k) q qb).toArray))
              replace H0 := Lib.hid (H0.out.setRow (stL ({ c1 with a1 := z1, n1 := z2, k1 := z3 }) (.slice a ts.length k) q qb))
              try replace H2 := Lib.hid (row_far H2.out (stL ({ c1 with a1 := z1, n1 := z2, k1 := z3 }) (.slice a ts.length k) q qb).toArray (show y2 ≠ y0 by have := HN.out; omega))
              try replace HS4 := Lib.hid (HF4.out.stay HS4.out (y := y0) (by have := HN.out; omega) (stL ({ c1 with a1 := z1, n1 := z2, k1 := z3 }) (.slice a ts.length k) q qb).toArray)
              generalize w5.setRow y0 (stL ({ c1 with a1 := z1, n1 := z2, k1 := z3 }) (.slice a ts.length k) q qb).toArray = w6 at *
              apply wpList_nil
              go_wp2_with fail
              go_meet
              have hit : ItemR ts c.op ⟨p1, A1, varsS A1⟩ (atomP ts ⟨p1 + 1, A1, varsS A1⟩) := ItemR.atom HK4.out.1 HK4.out.2
              exact ⟨z1, z2, z3, q, qb, A2, HX.out, by have h := H0.out; rw [← HC1.out] at h; exact h, H1.out, HOA.out, HLE.out.1, by have := HLE.out.2; have := HAV.out; omega, _, hit, HRS.out, hit.bd HRS.out HAV.out.1 HAV.out.2.1 HAV.out.2.2⟩
        case rest =>
          obtain ⟨x1', x2', x3', q, qb, A2, hx, h0, h1, ho, hq, hA2, r, hit, hres, hbd⟩ := hcut
          obtain ⟨c2, hc2⟩ : ∃ c2 : Sc, { c with a1 := x1', n1 := x2', k1 := x3' } = c2 := ⟨_, rfl⟩
          rw [hc2] at h0
          obtain ⟨w4, rfl⟩ : ∃ z, z = wc := ⟨_, rfl⟩
          clear HX H0 H1 HOA
          have HX := Lib.hid hx
          have H0 := Lib.hid h0
          have H1 := Lib.hid h1
          have HOA := Lib.hid (show w4.ownsRow B 64 7 (.slice c2.a1 c2.n1 c2.k1) A2.length (A2.flatMap atCells) by rw [← hc2]; exact ho)
          have HN2 := Lib.hid (show c2.n1 = A2.length by
            rw [← hc2]
            obtain ⟨va, vc, e⟩ := own_vw ho
            cases e
            rfl)
          have HC2 := Lib.hid hc2
          have HQ := Lib.hid hq
          have HLA := Lib.hid hA2
          have HIT := Lib.hid hit
          have HRS := Lib.hid hres
          have HBD := Lib.hid hbd
          clear hx h0 h1 ho hc2 hq hA2 hit hres hbd
          cases qb with
          | true =>
            have d2 := H0.out.cell (i := 2) rfl
            go_upto_region 13 with fail
            clear d2
            -- items: the state is handed back: c2 cells, q place, true bad, w4 world, A2 atoms, x1' x2' x3' the row's parts,  proof on what it comes to
            -- the state of box y0 is handed on in box y1: c2 cells, q place, true bad, w4 world, wend world behind (the region's load and store)
            apply wp_region_lit
            -- a load of a whole row: y0 block, H0.out fact RowAt, colanderref16.State the type's name
            refine plain_load rfl _ _ rfl y0 rfl _ _ (H0.out) Try.underlying70 rfl (by kernel_rfl) ?_
            go_simp
            refine plain_store rfl _ _ _ rfl y1 (stL c2 (.slice a ts.length k) q true) rfl rfl (H1.out) (by kernel_rfl) rfl (stL_one c2 _ _ _ _ _) ?_
            go_simp
            replace HX := Lib.hid (show Ext w (w4.setRow y1 (stL c2 (.slice a ts.length k) q true).toArray) from below_setRow HX.out (by have := HN.out; omega) _)
            try replace HOA := Lib.hid (own_turn HOA.out H1.out (by decide) (setRow_grown w4 y1 (stL c2 (.slice a ts.length k) q true).toArray))
            try replace HOR := Lib.hid (own_turn HOR.out H1.out (by decide) (setRow_grown w4 y1 (stL c2 (.slice a ts.length k) q true).toArray))
            try replace HOH := Lib.hid (own_turn HOH.out H1.out (by decide) (setRow_grown w4 y1 (stL c2 (.slice a ts.length k) q true).toArray))
            replace H1 := Lib.hid (H1.out.setRow (stL c2 (.slice a ts.length k) q true))
            clear H0
            generalize w4.setRow y1 (stL c2 (.slice a ts.length k) q true).toArray = wend at *
            apply wpList_nil
            go_wp2_with fail
            refine bodyPost_ret (results_row0 rfl rfl H1.out Try.underlying70 rfl (by kernel_rfl)) rfl ⟨x1', x2', x3', q, true, A2, ?_, ?_, ?_, ?_, HX.out⟩
            · rw [HC2.out]
            · have h := HOA.out; rw [← HC2.out] at h; exact h
            · exact ⟨HQ.out, HLA.out⟩
            · exact ⟨_, HBK.out _ (ItemsR.bad (HRS.out.err ▸ HIT.out)), rfl, rfl⟩
          | false =>
            have HKQ := Lib.hid (kindQ (HTQ.out.ext HX.out) HQ.out c2 false)
            obtain ⟨f0, f1, f2, f3, f4, f5, f6, f7, f8, f9, f10, f11⟩ := stQ_facts H0.out
            go_upto_region 12 with fail
            by_cases h6 : kindAt ts q = 6
            · have HH6 := Lib.hid h6
              rw [h6] at HKQ
              clear h6
              by_cases h40 : A2.length = 40
              · have HH40 := Lib.hid h40
                have hq40 : ((A2.length : Int) == 40) = true := by rw [h40]; rfl
                clear h40
                go_wp2_with fail
                refine HKQ.out.mono ?_
                rintro e w5 ⟨rfl, hx5⟩
                clear f0 f1 f2 f3 f4 f5 f6 f7 f8 f9 f10 f11
                have d3 := (H0.out.ext hx5).cell (i := 3) rfl
                rw [HN2.out] at d3
                -- memory has been made
                replace HX := Lib.hid (HX.out.trans hx5)
                replace H0 := Lib.hid (H0.out.ext hx5)
                replace H1 := Lib.hid (H1.out.ext hx5)
                try replace H2 := Lib.hid (H2.out.ext hx5)
                try replace H3 := Lib.hid (H3.out.ext hx5)
                try replace HS4 := Lib.hid (Strs.ext HS4.out hx5)
                try replace HOA := Lib.hid (own_ext HOA.out hx5)
                try replace HOR := Lib.hid (own_ext HOR.out hx5)
                try replace HOH := Lib.hid (own_ext HOH.out hx5)
                clear hx5
                go_upto_region 13 with fail
                clear d3 hq40
                -- items: the state is handed back: c2 cells, q place, false bad, w5 world, A2 atoms, x1' x2' x3' the row's parts,  proof on what it comes to
                -- the state of box y0 is handed on in box y1: c2 cells, q place, false bad, w5 world, wend world behind (the region's load and store)
                apply wp_region_lit
                -- a load of a whole row: y0 block, H0.out fact RowAt, colanderref16.State the type's name
                refine plain_load rfl _ _ rfl y0 rfl _ _ (H0.out) Try.underlying70 rfl (by kernel_rfl) ?_
                go_simp
                refine plain_store rfl _ _ _ rfl y1 (stL c2 (.slice a ts.length k) q false) rfl rfl (H1.out) (by kernel_rfl) rfl (stL_one c2 _ _ _ _ _) ?_
                go_simp
                replace HX := Lib.hid (show Ext w (w5.setRow y1 (stL c2 (.slice a ts.length k) q false).toArray) from below_setRow HX.out (by have := HN.out; omega) _)
                try replace HOA := Lib.hid (own_turn HOA.out H1.out (by decide) (setRow_grown w5 y1 (stL c2 (.slice a ts.length k) q false).toArray))
                try replace HOR := Lib.hid (own_turn HOR.out H1.out (by decide) (setRow_grown w5 y1 (stL c2 (.slice a ts.length k) q false).toArray))
                try replace HOH := Lib.hid (own_turn HOH.out H1.out (by decide) (setRow_grown w5 y1 (stL c2 (.slice a ts.length k) q false).toArray))
                replace H1 := Lib.hid (H1.out.setRow (stL c2 (.slice a ts.length k) q false))
                clear H0
                generalize w5.setRow y1 (stL c2 (.slice a ts.length k) q false).toArray = wend at *
                apply wpList_nil
                go_wp2_with fail
                refine bodyPost_ret (results_row0 rfl rfl H1.out Try.underlying70 rfl (by kernel_rfl)) rfl ⟨x1', x2', x3', q, false, A2, ?_, ?_, ?_, ?_, HX.out⟩
                · rw [HC2.out]
                · have h := HOA.out; rw [← HC2.out] at h; exact h
                · exact ⟨HQ.out, HLA.out⟩
                · exact ⟨_, HBK.out _ (ItemsR.last (HRS.out.okk ▸ HIT.out) (.inl HH40.out)), rfl, rfl, rfl, rfl⟩
              · have HH40 := Lib.hid h40
                have hq40 : ((A2.length : Int) == 40) = false := by rw [beq_eq_false_iff_ne]; omega
                clear h40
                go_wp2_with fail
                refine HKQ.out.mono ?_
                rintro e w5 ⟨rfl, hx5⟩
                clear f0 f1 f2 f3 f4 f5 f6 f7 f8 f9 f10 f11
                have d3 := (H0.out.ext hx5).cell (i := 3) rfl
                rw [HN2.out] at d3
                -- memory has been made
                replace HX := Lib.hid (HX.out.trans hx5)
                replace H0 := Lib.hid (H0.out.ext hx5)
                replace H1 := Lib.hid (H1.out.ext hx5)
                try replace H2 := Lib.hid (H2.out.ext hx5)
                try replace H3 := Lib.hid (H3.out.ext hx5)
                try replace HS4 := Lib.hid (Strs.ext HS4.out hx5)
                try replace HOA := Lib.hid (own_ext HOA.out hx5)
                try replace HOR := Lib.hid (own_ext HOR.out hx5)
                try replace HOH := Lib.hid (own_ext HOH.out hx5)
                clear hx5
                go_upto_region 14 with fail
                clear d3 hq40
                -- the document's state in box y0 is handed to take, and what comes is put back (the region's operations up to the store): c2 the state's cells c, q place, false bad, 6 kind, HQ.out place within, q3 new place, b3 new bad, s3 the text, w6 world behind. Facts: HTQ, HX, H0, H1, HN
                have htk := takeQ (HTQ.out.ext HX.out) (HQ.out) c2 false 6 (by decide)
                obtain ⟨⟨q3, b3, s3⟩, hr⟩ : ∃ r, takeR ts 6 q false = r := ⟨_, rfl⟩
                rw [hr] at htk
                dsimp only at htk
                have HTK := Lib.hid htk
                have HRq3 := Lib.hid hr
                have HPq3 := Lib.hid (show q3 ≤ ts.length by have h := takeR_le (ts := ts) (HQ.out) (q := 6) (by decide) false; rw [hr] at h; exact h)
                clear htk hr
                apply wp_region_lit
                -- a load of a whole row: y0 block, H0.out fact RowAt, colanderref16.State the type's name
                refine plain_load rfl _ _ rfl y0 rfl _ _ (H0.out) Try.underlying70 rfl (by kernel_rfl) ?_
                go_simp
                -- a call in a plain region: refine HTK.out.mono ?_; rintro e wt ⟨rfl, hxt⟩ the contract taken, and its results named
                refine wpList_plain rfl fun K1 hK1 => ?_
                go_simp
                refine HTK.out.mono ?_; rintro e wt ⟨rfl, hxt⟩
                go_simp
                refine hK1 _ _ ?_
                clear hK1 K1
                -- memory has been made
                replace HX := Lib.hid (HX.out.trans hxt)
                replace H0 := Lib.hid (H0.out.ext hxt)
                replace H1 := Lib.hid (H1.out.ext hxt)
                try replace H2 := Lib.hid (H2.out.ext hxt)
                try replace H3 := Lib.hid (H3.out.ext hxt)
                try replace HS4 := Lib.hid (Strs.ext HS4.out hxt)
                try replace HOA := Lib.hid (own_ext HOA.out hxt)
                try replace HOR := Lib.hid (own_ext HOR.out hxt)
                try replace HOH := Lib.hid (own_ext HOH.out hxt)
                clear hxt
                refine wpList_plain rfl fun K1 hK1 => ?_
                go_simp
                refine hK1 _ _ ?_
                clear hK1 K1
                refine wpList_plain rfl fun K1 hK1 => ?_
                go_simp
                refine hK1 _ _ ?_
                clear hK1 K1
                refine wpList_plain rfl fun K1 hK1 => ?_
                go_simp
                refine hK1 _ _ ?_
                clear hK1 K1
                -- a state's row is put into box y0: (c2) cells, q3 place, b3 bad, wt world, w6 world behind
                refine plain_store rfl _ _ _ rfl y0 (stL (c2) (.slice a ts.length k) q3 b3) rfl rfl (H0.out) (by kernel_rfl) rfl (stL_one (c2) _ _ _ _ _) ?_
                go_simp
                replace HX := Lib.hid (show Ext w (wt.setRow y0 (stL (c2) (.slice a ts.length k) q3 b3).toArray) from below_setRow HX.out (by have := HN.out; omega) _)
                replace H1 := Lib.hid (row_far H1.out (stL (c2) (.slice a ts.length k) q3 b3).toArray (show y1 ≠ y0 by have := HN.out; omega))
                try replace HOA := Lib.hid (own_turn HOA.out H0.out (by decide) (setRow_grown wt y0 (stL (c2) (.slice a ts.length k) q3 b3).toArray))
                try replace HOR := Lib.hid (own_turn HOR.out H0.out (by decide) (setRow_grown wt y0 (stL (c2) (.slice a ts.length k) q3 b3).toArray))
                try replace HOH := Lib.hid (own_turn HOH.out H0.out (by decide) (setRow_grown wt y0 (stL (c2) (.slice a ts.length k) q3 b3).toArray))
                replace H0 := Lib.hid (H0.out.setRow (stL (c2) (.slice a ts.length k) q3 b3))
                try replace H2 := Lib.hid (row_far H2.out (stL (c2) (.slice a ts.length k) q3 b3).toArray (show y2 ≠ y0 by have := HN.out; omega))
                try replace HS4 := Lib.hid (HF4.out.stay HS4.out (y := y0) (by have := HN.out; omega) (stL (c2) (.slice a ts.length k) q3 b3).toArray)
                generalize wt.setRow y0 (stL (c2) (.slice a ts.length k) q3 b3).toArray = w6 at *
                clear HTK
                apply wpList_nil
                have hg : q3 = q + 1 ∧ b3 = false := by
                  have h := HRq3.out
                  rw [takeR_ok HH6.out] at h
                  cases h
                  exact ⟨rfl, rfl⟩
                obtain ⟨rfl, rfl⟩ := hg
                go_wp2_with fail
                go_roundg (ts.length + 1 - (q + 1))
                case measure => have := HG.out; have := HBD.out (by trivial); have := HPq3.out; omega
                case rel =>
                  obtain ⟨g1, g2, g3, g4⟩ := HBD.out (by trivial)
                  exact ⟨q + 1, A2, rfl, x1', x2', x3', HX.out, by rw [HC2.out]; exact H0.out, H1.out, by have h := HOA.out; rw [← HC2.out] at h; exact h, HPq3.out, by have := HH40.out; omega, g3, g4, fun r h => HBK.out _ (ItemsR.more (HRS.out.okk ▸ HIT.out) (fun e => e.elim HH40.out (fun e => e HH6.out)) h)⟩
            · have HH6 := Lib.hid h6
              obtain ⟨kk, hkk⟩ : ∃ kk, kindAt ts q = kk := ⟨_, rfl⟩
              rw [hkk] at HKQ h6
              have hk6 : (kk != 6) = true := by simpa using h6
              clear hkk
              clear h6
              go_wp2_with fail
              refine HKQ.out.mono ?_
              rintro e w5 ⟨rfl, hx5⟩
              clear f0 f1 f2 f3 f4 f5 f6 f7 f8 f9 f10 f11
              -- memory has been made
              replace HX := Lib.hid (HX.out.trans hx5)
              replace H0 := Lib.hid (H0.out.ext hx5)
              replace H1 := Lib.hid (H1.out.ext hx5)
              try replace H2 := Lib.hid (H2.out.ext hx5)
              try replace H3 := Lib.hid (H3.out.ext hx5)
              try replace HS4 := Lib.hid (Strs.ext HS4.out hx5)
              try replace HOA := Lib.hid (own_ext HOA.out hx5)
              try replace HOR := Lib.hid (own_ext HOR.out hx5)
              try replace HOH := Lib.hid (own_ext HOH.out hx5)
              clear hx5
              go_upto_region 13 with fail
              clear hk6
              -- items: the state is handed back: c2 cells, q place, false bad, w5 world, A2 atoms, x1' x2' x3' the row's parts,  proof on what it comes to
              -- the state of box y0 is handed on in box y1: c2 cells, q place, false bad, w5 world, wend world behind (the region's load and store)
              apply wp_region_lit
              -- a load of a whole row: y0 block, H0.out fact RowAt, colanderref16.State the type's name
              refine plain_load rfl _ _ rfl y0 rfl _ _ (H0.out) Try.underlying70 rfl (by kernel_rfl) ?_
              go_simp
              refine plain_store rfl _ _ _ rfl y1 (stL c2 (.slice a ts.length k) q false) rfl rfl (H1.out) (by kernel_rfl) rfl (stL_one c2 _ _ _ _ _) ?_
              go_simp
              replace HX := Lib.hid (show Ext w (w5.setRow y1 (stL c2 (.slice a ts.length k) q false).toArray) from below_setRow HX.out (by have := HN.out; omega) _)
              try replace HOA := Lib.hid (own_turn HOA.out H1.out (by decide) (setRow_grown w5 y1 (stL c2 (.slice a ts.length k) q false).toArray))
              try replace HOR := Lib.hid (own_turn HOR.out H1.out (by decide) (setRow_grown w5 y1 (stL c2 (.slice a ts.length k) q false).toArray))
              try replace HOH := Lib.hid (own_turn HOH.out H1.out (by decide) (setRow_grown w5 y1 (stL c2 (.slice a ts.length k) q false).toArray))
              replace H1 := Lib.hid (H1.out.setRow (stL c2 (.slice a ts.length k) q false))
              clear H0
              generalize w5.setRow y1 (stL c2 (.slice a ts.length k) q false).toArray = wend at *
              apply wpList_nil
              go_wp2_with fail
              refine bodyPost_ret (results_row0 rfl rfl H1.out Try.underlying70 rfl (by kernel_rfl)) rfl ⟨x1', x2', x3', q, false, A2, ?_, ?_, ?_, ?_, HX.out⟩
              · rw [HC2.out]
              · have h := HOA.out; rw [← HC2.out] at h; exact h
              · exact ⟨HQ.out, HLA.out⟩
              · exact ⟨_, HBK.out _ (ItemsR.last (HRS.out.okk ▸ HIT.out) (.inr HH6.out)), rfl, rfl, rfl, rfl⟩
theorem items_all {ts : List Tk} {a : Option Addr} {k B : Nat} (hN : Named ts) : ∀ n op, op + n = 4 → ItemsC ts a k B op
  | 0, op, h => items_step hN (by omega) (fun hl => absurd hl (by omega))
  | n + 1, op, h => items_step hN (by omega) (fun _ => items_all hN n (op + 1) (by omega))
end Go.Proofs.Ytngnplghjaojhaa
