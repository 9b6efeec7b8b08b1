/- The document's state: a variable that is none of some: the walk. -/
import Derived.Test.YtngnplghjaojhaaGp27
namespace Go.Proofs.Ytngnplghjaojhaa
set_option maxRecDepth 100000
set_option maxHeartbeats 2000000
set_option linter.unusedSimpArgs false
open Go.RowKit Go.Shelf Go.Sort
attribute [local go_sem] Oper.semAt_some wide_fn wide_depth
set_option linter.unusedVariables false
/-- What a variable comes to: the place, whether it is bad, the names. -/
def varF (ts : List Tk) (vars some_ : List ByteArray) (p : Nat) (bad : Bool) : Nat × Bool × List ByteArray :=
  if (takeR ts 1 p bad).2.1 = false ∧ (hasB (takeR ts 1 p bad).2.2 vars = false ∨ hasB (takeR ts 1 p bad).2.2 some_ = true) then (p, true, some_)
  else ((takeR ts 1 p bad).1, (takeR ts 1 p bad).2.1, some_ ++ [(takeR ts 1 p bad).2.2])
theorem takeR_good {ts : List Tk} {q : Int} {p p1 : Nat} {bad : Bool} {x1 : ByteArray} (hq : q ≠ 0) (h : takeR ts q p bad = (p1, false, x1)) : p1 = p + 1 ∧ p < ts.length ∧ bad = false ∧ kindAt ts p = q ∧ x1 = textAt ts p := by
  unfold takeR at h
  split at h
  · rename_i hh
    have := kindAt_lt (ts := ts) (p := p) (by rw [hh.2]; exact hq)
    cases h
    exact ⟨rfl, this, hh.1, hh.2, rfl⟩
  · cases h
set_option maxRecDepth 100000 in
set_option maxHeartbeats 2000000 in
theorem varQ {w : World} {ts : List Tk} {a : Option Addr} {k p : Nat} (h : TkQ w ts a k) (hp : p ≤ ts.length) (c : Sc) (A : List Atm) (hA : Ats w (.slice c.a1 c.n1 c.k1) A) (hAl : A.length ≤ 100000) (v : Value) (L : List ByteArray) (B : Nat)
    (hv : w.ownsRow B 9 1 v L.length (L.map Value.string)) (hB : B ≤ w.heap.size) (hL : L.length ≤ 100000) (bad : Bool) :
    Calls Try.prog 56 #[.agg (stL c (.slice a ts.length k) p bad).toArray, v] w fun e w' => ∃ u,
      e = .returned (.tuple #[.agg (stL c (.slice a ts.length k) (varF ts (varsS A) L p bad).1 (varF ts (varsS A) L p bad).2.1).toArray, u]) ∧ w'.ownsRow B 9 1 u (varF ts (varsS A) L p bad).2.2.length ((varF ts (varsS A) L p bad).2.2.map Value.string) ∧ Ext w w' := by
  have hmo : Try.prog.follows .mixedOrders = true := by kernel_rfl
  obtain ⟨⟨q, qb, qL⟩, hR⟩ : ∃ R, varF ts (varsS A) L p bad = R := ⟨_, rfl⟩
  rw [hR]
  dsimp only
  obtain ⟨va, vc, rfl⟩ := own_vw hv
  have HF := Lib.hid hR
  have HTQ := Lib.hid h
  have HPP := Lib.hid hp
  have HO := Lib.hid hv
  have HBB := Lib.hid hB
  have HLN := Lib.hid hL
  have HA := Lib.hid hA
  have HAL := Lib.hid hAl
  clear h hp hR hv hB hL hA hAl
  -- a function over a state: colander/colanderref16.variable its name, c the state's cells c, p place, bad bad
  -- a function with two boxes at its head: colander/colanderref16.variable its name, stL c (.slice a ts.length k) p bad [.slice none 0 0, .int .i64 0, .bool false, .slice none 0 0, .slice none 0 0, .bool false, .bool false, .bool false, .int .i64 0, .int .i64 0, .slice none 0 0, .int .i64 0] their cells (lists), colanderref16.State colanderref16.State their types' names
  have hbx := boxes2 w (stL c (.slice a ts.length k) p bad) 70 ([.slice none 0 0, .int .i64 0, .bool false, .slice none 0 0, .slice none 0 0, .bool false, .bool false, .bool false, .int .i64 0, .int .i64 0, .slice none 0 0, .int .i64 0]) 70
  have HBX := Lib.hid hbx
  clear hbx
  go_enter Try.func56, Try.ntmps56
  go_upto_region 1 with fail
  generalize (w.alloc (.cells (stL c (.slice a ts.length k) p bad).toArray 70)).alloc (.cells ([.slice none 0 0, .int .i64 0, .bool false, .slice none 0 0, .slice none 0 0, .bool false, .bool false, .bool false, .int .i64 0, .int .i64 0, .slice none 0 0, .int .i64 0]).toArray 70) = w1 at *
  obtain ⟨y0, hy0⟩ : ∃ x, w.heap.size = x := ⟨_, rfl⟩
  obtain ⟨y1, hy1⟩ : ∃ x, y0 + 1 = x := ⟨_, rfl⟩
  rw [hy0, hy1] at HBX
  simp only [hy0, hy1]
  have HN := Lib.hid (show w.heap.size = y0 ∧ y0 + 1 = y1 from ⟨hy0, hy1⟩)
  have HX := Lib.hid HBX.out.1
  have H0 := Lib.hid HBX.out.2.1
  have H1 := Lib.hid HBX.out.2.2
  clear hy0 hy1 HBX
  -- the document's state in box y0 is handed to take, and what comes is put back (the region's operations up to the store): c the state's cells c, p place, bad bad, 1 kind, HPP.out place within, p1 new place, b1 new bad, x1 the text, w2 world behind. Facts: HTQ, HX, H0, H1, HN
  have htk := takeQ (HTQ.out.ext HX.out) (HPP.out) c bad 1 (by decide)
  obtain ⟨⟨p1, b1, x1⟩, hr⟩ : ∃ r, takeR ts 1 p bad = r := ⟨_, rfl⟩
  rw [hr] at htk
  dsimp only at htk
  have HTK := Lib.hid htk
  have HRp1 := Lib.hid hr
  have HPp1 := Lib.hid (show p1 ≤ ts.length by have h := takeR_le (ts := ts) (HPP.out) (q := 1) (by decide) bad; rw [hr] at h; exact h)
  clear htk hr
  apply wp_region_lit
  -- a load of a whole row: y0 block, H0.out fact RowAt, colanderref16.State the type's name
  refine plain_load rfl _ _ rfl y0 rfl _ _ (H0.out) Try.underlying70 rfl (by kernel_rfl) ?_
  go_simp
  -- a call in a plain region: refine HTK.out.mono ?_; rintro e wt ⟨rfl, hxt⟩ the contract taken, and its results named
  refine wpList_plain rfl fun K1 hK1 => ?_
  go_simp
  refine HTK.out.mono ?_; rintro e wt ⟨rfl, hxt⟩
  go_simp
  refine hK1 _ _ ?_
  clear hK1 K1
  -- memory has been made
  replace HX := Lib.hid (HX.out.trans hxt)
  replace H0 := Lib.hid (H0.out.ext hxt)
  replace H1 := Lib.hid (H1.out.ext hxt)
  try replace H2 := Lib.hid (H2.out.ext hxt)
  try replace H3 := Lib.hid (H3.out.ext hxt)
  try replace HS4 := Lib.hid (Strs.ext HS4.out hxt)
  try replace HOA := Lib.hid (own_ext HOA.out hxt)
  try replace HOR := Lib.hid (own_ext HOR.out hxt)
  try replace HOH := Lib.hid (own_ext HOH.out hxt)
  clear hxt
  refine wpList_plain rfl fun K1 hK1 => ?_
  go_simp
  refine hK1 _ _ ?_
  clear hK1 K1
  refine wpList_plain rfl fun K1 hK1 => ?_
  go_simp
  refine hK1 _ _ ?_
  clear hK1 K1
  refine wpList_plain rfl fun K1 hK1 => ?_
  go_simp
  refine hK1 _ _ ?_
  clear hK1 K1
  -- a state's row is put into box y0: (c) cells, p1 place, b1 bad, wt world, w2 world behind
  refine plain_store rfl _ _ _ rfl y0 (stL (c) (.slice a ts.length k) p1 b1) rfl rfl (H0.out) (by kernel_rfl) rfl (stL_one (c) _ _ _ _ _) ?_
  go_simp
  replace HX := Lib.hid (show Ext w (wt.setRow y0 (stL (c) (.slice a ts.length k) p1 b1).toArray) from below_setRow HX.out (by have := HN.out; omega) _)
  replace H1 := Lib.hid (row_far H1.out (stL (c) (.slice a ts.length k) p1 b1).toArray (show y1 ≠ y0 by have := HN.out; omega))
  try replace HOA := Lib.hid (own_turn HOA.out H0.out (by decide) (setRow_grown wt y0 (stL (c) (.slice a ts.length k) p1 b1).toArray))
  try replace HOR := Lib.hid (own_turn HOR.out H0.out (by decide) (setRow_grown wt y0 (stL (c) (.slice a ts.length k) p1 b1).toArray))
  try replace HOH := Lib.hid (own_turn HOH.out H0.out (by decide) (setRow_grown wt y0 (stL (c) (.slice a ts.length k) p1 b1).toArray))
  replace H0 := Lib.hid (H0.out.setRow (stL (c) (.slice a ts.length k) p1 b1))
  try replace H2 := Lib.hid (row_far H2.out (stL (c) (.slice a ts.length k) p1 b1).toArray (show y2 ≠ y0 by have := HN.out; omega))
  try replace HS4 := Lib.hid (HF4.out.stay HS4.out (y := y0) (by have := HN.out; omega) (stL (c) (.slice a ts.length k) p1 b1).toArray)
  generalize wt.setRow y0 (stL (c) (.slice a ts.length k) p1 b1).toArray = w2 at *
  clear HTK
  refine wpList_plain rfl fun K1 hK1 => ?_
  go_simp
  refine hK1 _ _ ?_
  clear hK1 K1
  apply wpList_nil
  have d2 := H0.out.cell (i := 2) rfl
  have hf := HF.out
  unfold varF at hf
  rw [HRp1.out] at hf
  dsimp only at hf
  cases b1 with
  | true =>
    rw [if_neg (by simp)] at hf
    cases hf
    go_upto_region 4 with fail
    clear d2
    -- variable: the name is put behind the others; q place, true bad, x1 the name, w2 world, L the list
    go_upto_region 4 with fail
    have HSL := Lib.hid (show Strs w (.slice va L.length vc) L from Sl.of_own HO.out)
    refine wp_region_inv [33, 34, 35, 32, 36, 37, 38, 5] _ depV (VarG w y0 y1 (stL c (.slice a ts.length k) q true) [.slice none 0 0, .int .i64 0, .bool false, .slice none 0 0, .slice none 0 0, .bool false, .bool false, .bool false, .int .i64 0, .int .i64 0, .slice none 0 0, .int .i64 0] L x1 (.slice va L.length vc)) hmo (by kernel_rfl) (by kernel_rfl) (puts_self _ _) (VarG.start rfl (HX.out.trans (Ext.drewN w2 1)) (H0.out.ext (Ext.drewN w2 1)) (H1.out.ext (Ext.drewN w2 1))) ?_ ?_
    · refine ⟨?_, ?_, ?_, ?_, ?_, ?_, ?_, ?_, ?_, trivial⟩
      all_goals
        rintro S us wq hd hn ⟨u0, u1, u2, u3, u4, u5, u6, u7, rfl, hF⟩ K hK
        have hK' := fun u0 u1 u2 u3 u4 u5 u6 u7 w' h => hK [u0, u1, u2, u3, u4, u5, u6, u7] w' h
        clear hK
        simp only [puts, Act.put, List.setIfInBounds_toArray, List.set_cons_succ, List.set_cons_zero] at hK' ⊢
        have HK := Lib.hid hK'
        have HF := Lib.hid hF
        have HN2 := Lib.hid hn
        have HD := Lib.hid hd
        clear hK' hF hn hd
      · have hk := HK.out u0 u1 u2 _ u4 u5 u6 u7 _ (VarG.of (k := 3) HF.out.app.s3 (by decide) HF.out.r0 HF.out.r1)
        rw [if_pos (show Region.wanted _ _ = true from rfl)]
        refine wp_load_mid _ _ rfl y0 0 rfl _ _ HF.out.r0.whole Try.underlying70 rfl (by kernel_rfl) ?_
        simp only [puts, Act.put, List.setIfInBounds_toArray, List.set_cons_succ, List.set_cons_zero]
        exact hk
      · have hk := HK.out _ u1 u2 u3 u4 u5 u6 u7 _ (VarG.of (k := 0) (HF.out.app.s0 HN2.out) (by decide) (HF.out.r0.ext (Ext.alloc _ _)) (HF.out.r1.ext (Ext.alloc _ _)))
        go_simp
        exact hk
      · have hk := HK.out u0 _ u2 u3 u4 u5 u6 u7 _ (VarG.of (k := 1) HF.out.app.s1 (by decide) HF.out.r0 HF.out.r1)
        go_simp
        exact hk
      · have h0 := HD.out 1 (by decide)
        have hv := HF.out.app.a1 (HD.out 2 (by decide))
        have ho := HF.out.app.a0 h0 HN2.out
        have hsl := HSL.out.ext HF.out.app.ext
        rw [← hv] at hsl
        have HO2 := Lib.hid ho
        have HS := Lib.hid hsl
        have H0' := Lib.hid h0
        clear hv ho hsl h0
        rw [if_pos (show Region.wanted _ _ = true from rfl)]
        refine wp_append_sl wq _ _ 22 rfl elStr rfl HO2.out rfl HS.out (by simp) (strs_one L) (by have := HLN.out; omega) (by have := HLN.out; unfold maxLen; omega) HF.out.app.ext.size ?_
        intro v' w' ho hb hg _
        simp only [Act.put, List.setIfInBounds_toArray, List.set_cons_succ, List.set_cons_zero]
        rw [Nat.zero_add, List.nil_append] at ho
        exact HK.out u0 u1 v' u3 u4 u5 u6 u7 w' (VarG.of (k := 2) (HF.out.app.s2 H0'.out HN2.out hb hg ho) (by decide) (HF.out.r0.ownS HO2.out (by decide) hg) (HF.out.r1.ownS HO2.out (by decide) hg))
      · have hk := HK.out u0 u1 u2 u3 _ u5 u6 u7 _ (VarG.of (k := 4) HF.out.app.s4 (by decide) HF.out.r0 HF.out.r1)
        go_simp
        exact hk
      · have hu := HF.out.app.a4 (HD.out 4 (by decide))
        have hk := HK.out u0 u1 u2 u3 u4 _ u6 u7 _ (VarG.of (k := 5) (HF.out.app.s5 HN2.out rfl) (by decide) (HF.out.r0.ext (Ext.alloc _ _)) (HF.out.r1.ext (Ext.alloc _ _)))
        subst hu
        go_simp
        exact hk
      · have h2 := HD.out 3 (by decide)
        have h5 := HD.out 5 (by decide)
        have ho := HF.out.app.a2 h2 HN2.out
        have hsl := Sl.of_own (HF.out.app.a5 h5 HN2.out)
        have HO2 := Lib.hid ho
        rw [if_pos (show Region.wanted _ _ = true from rfl)]
        refine wp_append_sl wq _ _ 22 rfl elStr rfl ho rfl hsl (by simp) (strs_one [x1]) (by have := HLN.out; omega) (by have := HLN.out; unfold maxLen; omega) HF.out.app.ext.size ?_
        intro v' w' ho hb hg _
        simp only [Act.put, List.setIfInBounds_toArray, List.set_cons_succ, List.set_cons_zero]
        exact HK.out u0 u1 u2 u3 u4 u5 v' u7 w' (VarG.of (k := 6) (HF.out.app.s6 h2 h5 HN2.out hb ho) (by decide) (HF.out.r0.ownS HO2.out (by decide) hg) (HF.out.r1.ownS HO2.out (by decide) hg))
      · have hu := HF.out.app.a3 (HD.out 0 (by decide))
        have hk := HK.out u0 u1 u2 u3 u4 u5 u6 u7 _ (HF.out.store (by have := HN.out; omega) (by have := HN.out; omega))
        have hr1 := HF.out.r1
        rw [if_neg (by rw [HN2.out]; simp)] at hr1
        subst hu
        rw [if_pos (show Region.wanted _ _ = true from rfl)]
        refine wp_store_row _ _ _ rfl y1 (stL c (.slice a ts.length k) q true).toArray rfl rfl _ _ hr1 (by kernel_rfl) rfl (all_oneCell_toArray (stL_one c _ _ _ _ _)) ?_
        simp only [puts, Act.put, List.setIfInBounds_toArray, List.set_cons_succ, List.set_cons_zero]
        exact hk
      · have h6 := HD.out 6 (by decide)
        have hk := HK.out u0 u1 u2 u3 u4 u5 u6 _ _ (VarG.of (k := 7) (HF.out.app.s7 h6) (by decide) HF.out.r0 HF.out.r1)
        go_simp
        exact hk
    · rintro S us wq hS ⟨u0, u1, u2, u3, u4, u5, u6, u7, rfl, hF⟩
      have ho := hF.app.a7 (hS 8 (by decide))
      have hr1 := hF.r1
      rw [if_pos (hS 7 (by decide))] at hr1
      have HXF := Lib.hid hF.app.ext
      have HOF := Lib.hid ho
      have HRF := Lib.hid hr1
      clear ho hr1 hF hS
      simp only [puts, Act.put, List.setIfInBounds_toArray, List.set_cons_succ, List.set_cons_zero]
      go_wp2_with fail
      refine bodyPost_ret (results_row1 rfl rfl HRF.out Try.underlying70 rfl (by kernel_rfl)) rfl ⟨_, rfl, ?_, HXF.out⟩
      rw [List.length_append, List.map_append]
      exact own_base HOF.out HBB.out
  | false =>
    obtain ⟨rfl, hlt, rfl, hk9, hx9⟩ := takeR_good (by decide) HRp1.out
    clear hk9 hx9
    have d3 := H0.out.cell (i := 3) rfl
    have HVS := Lib.hid (varsS_any _ A w2 (HA.out.ext HX.out) (by have := HAL.out; omega))
    go_wp2_with fail
    refine HVS.out.mono ?_
    rintro e w3 ⟨vv, rfl, hvv, hx3⟩
    clear d2 d3
    -- memory has been made
    replace HX := Lib.hid (HX.out.trans hx3)
    replace H0 := Lib.hid (H0.out.ext hx3)
    replace H1 := Lib.hid (H1.out.ext hx3)
    try replace H2 := Lib.hid (H2.out.ext hx3)
    try replace H3 := Lib.hid (H3.out.ext hx3)
    try replace HS4 := Lib.hid (Strs.ext HS4.out hx3)
    try replace HOA := Lib.hid (own_ext HOA.out hx3)
    try replace HOR := Lib.hid (own_ext HOR.out hx3)
    try replace HOH := Lib.hid (own_ext HOH.out hx3)
    clear hx3
    have HH := Lib.hid (hasS_any x1 vv (varsS A) w3 hvv)
    clear hvv HVS
    go_wp2_with fail
    refine HH.out.mono ?_
    rintro e w4 ⟨rfl, hx4⟩
    -- memory has been made
    replace HX := Lib.hid (HX.out.trans hx4)
    replace H0 := Lib.hid (H0.out.ext hx4)
    replace H1 := Lib.hid (H1.out.ext hx4)
    try replace H2 := Lib.hid (H2.out.ext hx4)
    try replace H3 := Lib.hid (H3.out.ext hx4)
    try replace HS4 := Lib.hid (Strs.ext HS4.out hx4)
    try replace HOA := Lib.hid (own_ext HOA.out hx4)
    try replace HOR := Lib.hid (own_ext HOR.out hx4)
    try replace HOH := Lib.hid (own_ext HOH.out hx4)
    clear hx4
    clear HH
    cases hb : hasB x1 (varsS A) with
    | false =>
      rw [if_pos ⟨by trivial, .inl hb⟩] at hf
      cases hf
      clear hb
      -- variable: the name is wrong
      go_upto_region 3 with fail
      have hwr := wrongQ (p := p) (HTQ.out.ext HX.out) (by omega) c false
      have HWR := Lib.hid hwr
      clear hwr
      apply wp_region_lit
      -- a load of a whole row: y0 block, H0.out fact RowAt, colanderref16.State the type's name
      refine plain_load rfl _ _ rfl y0 rfl _ _ (H0.out) Try.underlying70 rfl (by kernel_rfl) ?_
      go_simp
      -- a call in a plain region: refine HWR.out.mono ?_; rintro e w8 ⟨rfl, hx8⟩ the contract taken, and its results named
      refine wpList_plain rfl fun K1 hK1 => ?_
      go_simp
      refine HWR.out.mono ?_; rintro e w8 ⟨rfl, hx8⟩
      go_simp
      refine hK1 _ _ ?_
      clear hK1 K1
      -- memory has been made
      replace HX := Lib.hid (HX.out.trans hx8)
      replace H0 := Lib.hid (H0.out.ext hx8)
      replace H1 := Lib.hid (H1.out.ext hx8)
      try replace H2 := Lib.hid (H2.out.ext hx8)
      try replace H3 := Lib.hid (H3.out.ext hx8)
      try replace HS4 := Lib.hid (Strs.ext HS4.out hx8)
      try replace HOA := Lib.hid (own_ext HOA.out hx8)
      try replace HOR := Lib.hid (own_ext HOR.out hx8)
      try replace HOH := Lib.hid (own_ext HOH.out hx8)
      clear hx8
      refine wpList_plain rfl fun K1 hK1 => ?_
      go_simp
      refine hK1 _ _ ?_
      clear hK1 K1
      refine plain_store rfl _ _ _ rfl y1 (stL c (.slice a ts.length k) p true) rfl rfl (H1.out) (by kernel_rfl) rfl (stL_one c _ _ _ _ _) ?_
      go_simp
      replace HX := Lib.hid (show Ext w (w8.setRow y1 (stL c (.slice a ts.length k) p true).toArray) from below_setRow HX.out (by have := HN.out; omega) _)
      try replace HOA := Lib.hid (own_turn HOA.out H1.out (by decide) (setRow_grown w8 y1 (stL c (.slice a ts.length k) p true).toArray))
      try replace HOR := Lib.hid (own_turn HOR.out H1.out (by decide) (setRow_grown w8 y1 (stL c (.slice a ts.length k) p true).toArray))
      try replace HOH := Lib.hid (own_turn HOH.out H1.out (by decide) (setRow_grown w8 y1 (stL c (.slice a ts.length k) p true).toArray))
      replace H1 := Lib.hid (H1.out.setRow (stL c (.slice a ts.length k) p true))
      clear H0
      generalize w8.setRow y1 (stL c (.slice a ts.length k) p true).toArray = w9 at *
      refine wpList_plain rfl fun K1 hK1 => ?_
      go_simp
      refine hK1 _ _ ?_
      clear hK1 K1
      apply wpList_nil
      go_wp2_with fail
      exact bodyPost_ret (results_row1 rfl rfl H1.out Try.underlying70 rfl (by kernel_rfl)) rfl ⟨_, rfl, own_ext HO.out HX.out, HX.out⟩
    | true =>
      have HH := Lib.hid (hasS_any x1 _ L w4 (Sl.of_own (own_ext HO.out HX.out)))
      go_wp2_with fail
      refine HH.out.mono ?_
      rintro e w5 ⟨rfl, hx5⟩
      -- memory has been made
      replace HX := Lib.hid (HX.out.trans hx5)
      replace H0 := Lib.hid (H0.out.ext hx5)
      replace H1 := Lib.hid (H1.out.ext hx5)
      try replace H2 := Lib.hid (H2.out.ext hx5)
      try replace H3 := Lib.hid (H3.out.ext hx5)
      try replace HS4 := Lib.hid (Strs.ext HS4.out hx5)
      try replace HOA := Lib.hid (own_ext HOA.out hx5)
      try replace HOR := Lib.hid (own_ext HOR.out hx5)
      try replace HOH := Lib.hid (own_ext HOH.out hx5)
      clear hx5
      clear HH
      cases hb2 : hasB x1 L with
      | true =>
        rw [if_pos ⟨by trivial, .inr hb2⟩] at hf
        cases hf
        clear hb hb2
        -- variable: the name is wrong
        go_upto_region 3 with fail
        have hwr := wrongQ (p := p) (HTQ.out.ext HX.out) (by omega) c false
        have HWR := Lib.hid hwr
        clear hwr
        apply wp_region_lit
        -- a load of a whole row: y0 block, H0.out fact RowAt, colanderref16.State the type's name
        refine plain_load rfl _ _ rfl y0 rfl _ _ (H0.out) Try.underlying70 rfl (by kernel_rfl) ?_
        go_simp
        -- a call in a plain region: refine HWR.out.mono ?_; rintro e w8 ⟨rfl, hx8⟩ the contract taken, and its results named
        refine wpList_plain rfl fun K1 hK1 => ?_
        go_simp
        refine HWR.out.mono ?_; rintro e w8 ⟨rfl, hx8⟩
        go_simp
        refine hK1 _ _ ?_
        clear hK1 K1
        -- memory has been made
        replace HX := Lib.hid (HX.out.trans hx8)
        replace H0 := Lib.hid (H0.out.ext hx8)
        replace H1 := Lib.hid (H1.out.ext hx8)
        try replace H2 := Lib.hid (H2.out.ext hx8)
        try replace H3 := Lib.hid (H3.out.ext hx8)
        try replace HS4 := Lib.hid (Strs.ext HS4.out hx8)
        try replace HOA := Lib.hid (own_ext HOA.out hx8)
        try replace HOR := Lib.hid (own_ext HOR.out hx8)
        try replace HOH := Lib.hid (own_ext HOH.out hx8)
        clear hx8
        refine wpList_plain rfl fun K1 hK1 => ?_
        go_simp
        refine hK1 _ _ ?_
        clear hK1 K1
        refine plain_store rfl _ _ _ rfl y1 (stL c (.slice a ts.length k) p true) rfl rfl (H1.out) (by kernel_rfl) rfl (stL_one c _ _ _ _ _) ?_
        go_simp
        replace HX := Lib.hid (show Ext w (w8.setRow y1 (stL c (.slice a ts.length k) p true).toArray) from below_setRow HX.out (by have := HN.out; omega) _)
        try replace HOA := Lib.hid (own_turn HOA.out H1.out (by decide) (setRow_grown w8 y1 (stL c (.slice a ts.length k) p true).toArray))
        try replace HOR := Lib.hid (own_turn HOR.out H1.out (by decide) (setRow_grown w8 y1 (stL c (.slice a ts.length k) p true).toArray))
        try replace HOH := Lib.hid (own_turn HOH.out H1.out (by decide) (setRow_grown w8 y1 (stL c (.slice a ts.length k) p true).toArray))
        replace H1 := Lib.hid (H1.out.setRow (stL c (.slice a ts.length k) p true))
        clear H0
        generalize w8.setRow y1 (stL c (.slice a ts.length k) p true).toArray = w9 at *
        refine wpList_plain rfl fun K1 hK1 => ?_
        go_simp
        refine hK1 _ _ ?_
        clear hK1 K1
        apply wpList_nil
        go_wp2_with fail
        exact bodyPost_ret (results_row1 rfl rfl H1.out Try.underlying70 rfl (by kernel_rfl)) rfl ⟨_, rfl, own_ext HO.out HX.out, HX.out⟩
      | false =>
        rw [if_neg (by rw [hb, hb2]; simp)] at hf
        cases hf
        clear hb hb2
        -- variable: the name is put behind the others; (p + 1) place, false bad, x1 the name, w5 world, L the list
        go_upto_region 4 with fail
        have HSL := Lib.hid (show Strs w (.slice va L.length vc) L from Sl.of_own HO.out)
        refine wp_region_inv [33, 34, 35, 32, 36, 37, 38, 5] _ depV (VarG w y0 y1 (stL c (.slice a ts.length k) (p + 1) false) [.slice none 0 0, .int .i64 0, .bool false, .slice none 0 0, .slice none 0 0, .bool false, .bool false, .bool false, .int .i64 0, .int .i64 0, .slice none 0 0, .int .i64 0] L x1 (.slice va L.length vc)) hmo (by kernel_rfl) (by kernel_rfl) (puts_self _ _) (VarG.start rfl (HX.out.trans (Ext.drewN w5 1)) (H0.out.ext (Ext.drewN w5 1)) (H1.out.ext (Ext.drewN w5 1))) ?_ ?_
        · refine ⟨?_, ?_, ?_, ?_, ?_, ?_, ?_, ?_, ?_, trivial⟩
          all_goals
            rintro S us wq hd hn ⟨u0, u1, u2, u3, u4, u5, u6, u7, rfl, hF⟩ K hK
            have hK' := fun u0 u1 u2 u3 u4 u5 u6 u7 w' h => hK [u0, u1, u2, u3, u4, u5, u6, u7] w' h
            clear hK
            simp only [puts, Act.put, List.setIfInBounds_toArray, List.set_cons_succ, List.set_cons_zero] at hK' ⊢
            have HK := Lib.hid hK'
            have HF := Lib.hid hF
            have HN2 := Lib.hid hn
            have HD := Lib.hid hd
            clear hK' hF hn hd
          · have hk := HK.out u0 u1 u2 _ u4 u5 u6 u7 _ (VarG.of (k := 3) HF.out.app.s3 (by decide) HF.out.r0 HF.out.r1)
            rw [if_pos (show Region.wanted _ _ = true from rfl)]
            refine wp_load_mid _ _ rfl y0 0 rfl _ _ HF.out.r0.whole Try.underlying70 rfl (by kernel_rfl) ?_
            simp only [puts, Act.put, List.setIfInBounds_toArray, List.set_cons_succ, List.set_cons_zero]
            exact hk
          · have hk := HK.out _ u1 u2 u3 u4 u5 u6 u7 _ (VarG.of (k := 0) (HF.out.app.s0 HN2.out) (by decide) (HF.out.r0.ext (Ext.alloc _ _)) (HF.out.r1.ext (Ext.alloc _ _)))
            go_simp
            exact hk
          · have hk := HK.out u0 _ u2 u3 u4 u5 u6 u7 _ (VarG.of (k := 1) HF.out.app.s1 (by decide) HF.out.r0 HF.out.r1)
            go_simp
            exact hk
          · have h0 := HD.out 1 (by decide)
            have hv := HF.out.app.a1 (HD.out 2 (by decide))
            have ho := HF.out.app.a0 h0 HN2.out
            have hsl := HSL.out.ext HF.out.app.ext
            rw [← hv] at hsl
            have HO2 := Lib.hid ho
            have HS := Lib.hid hsl
            have H0' := Lib.hid h0
            clear hv ho hsl h0
            rw [if_pos (show Region.wanted _ _ = true from rfl)]
            refine wp_append_sl wq _ _ 22 rfl elStr rfl HO2.out rfl HS.out (by simp) (strs_one L) (by have := HLN.out; omega) (by have := HLN.out; unfold maxLen; omega) HF.out.app.ext.size ?_
            intro v' w' ho hb hg _
            simp only [Act.put, List.setIfInBounds_toArray, List.set_cons_succ, List.set_cons_zero]
            rw [Nat.zero_add, List.nil_append] at ho
            exact HK.out u0 u1 v' u3 u4 u5 u6 u7 w' (VarG.of (k := 2) (HF.out.app.s2 H0'.out HN2.out hb hg ho) (by decide) (HF.out.r0.ownS HO2.out (by decide) hg) (HF.out.r1.ownS HO2.out (by decide) hg))
          · have hk := HK.out u0 u1 u2 u3 _ u5 u6 u7 _ (VarG.of (k := 4) HF.out.app.s4 (by decide) HF.out.r0 HF.out.r1)
            go_simp
            exact hk
          · have hu := HF.out.app.a4 (HD.out 4 (by decide))
            have hk := HK.out u0 u1 u2 u3 u4 _ u6 u7 _ (VarG.of (k := 5) (HF.out.app.s5 HN2.out rfl) (by decide) (HF.out.r0.ext (Ext.alloc _ _)) (HF.out.r1.ext (Ext.alloc _ _)))
            subst hu
            go_simp
            exact hk
          · have h2 := HD.out 3 (by decide)
            have h5 := HD.out 5 (by decide)
            have ho := HF.out.app.a2 h2 HN2.out
            have hsl := Sl.of_own (HF.out.app.a5 h5 HN2.out)
            have HO2 := Lib.hid ho
            rw [if_pos (show Region.wanted _ _ = true from rfl)]
            refine wp_append_sl wq _ _ 22 rfl elStr rfl ho rfl hsl (by simp) (strs_one [x1]) (by have := HLN.out; omega) (by have := HLN.out; unfold maxLen; omega) HF.out.app.ext.size ?_
            intro v' w' ho hb hg _
            simp only [Act.put, List.setIfInBounds_toArray, List.set_cons_succ, List.set_cons_zero]
            exact HK.out u0 u1 u2 u3 u4 u5 v' u7 w' (VarG.of (k := 6) (HF.out.app.s6 h2 h5 HN2.out hb ho) (by decide) (HF.out.r0.ownS HO2.out (by decide) hg) (HF.out.r1.ownS HO2.out (by decide) hg))
          · have hu := HF.out.app.a3 (HD.out 0 (by decide))
            have hk := HK.out u0 u1 u2 u3 u4 u5 u6 u7 _ (HF.out.store (by have := HN.out; omega) (by have := HN.out; omega))
            have hr1 := HF.out.r1
            rw [if_neg (by rw [HN2.out]; simp)] at hr1
            subst hu
            rw [if_pos (show Region.wanted _ _ = true from rfl)]
            refine wp_store_row _ _ _ rfl y1 (stL c (.slice a ts.length k) (p + 1) false).toArray rfl rfl _ _ hr1 (by kernel_rfl) rfl (all_oneCell_toArray (stL_one c _ _ _ _ _)) ?_
            simp only [puts, Act.put, List.setIfInBounds_toArray, List.set_cons_succ, List.set_cons_zero]
            exact hk
          · have h6 := HD.out 6 (by decide)
            have hk := HK.out u0 u1 u2 u3 u4 u5 u6 _ _ (VarG.of (k := 7) (HF.out.app.s7 h6) (by decide) HF.out.r0 HF.out.r1)
            go_simp
            exact hk
        · rintro S us wq hS ⟨u0, u1, u2, u3, u4, u5, u6, u7, rfl, hF⟩
          have ho := hF.app.a7 (hS 8 (by decide))
          have hr1 := hF.r1
          rw [if_pos (hS 7 (by decide))] at hr1
          have HXF := Lib.hid hF.app.ext
          have HOF := Lib.hid ho
          have HRF := Lib.hid hr1
          clear ho hr1 hF hS
          simp only [puts, Act.put, List.setIfInBounds_toArray, List.set_cons_succ, List.set_cons_zero]
          go_wp2_with fail
          refine bodyPost_ret (results_row1 rfl rfl HRF.out Try.underlying70 rfl (by kernel_rfl)) rfl ⟨_, rfl, ?_, HXF.out⟩
          rw [List.length_append, List.map_append]
          exact own_base HOF.out HBB.out
end Go.Proofs.Ytngnplghjaojhaa
