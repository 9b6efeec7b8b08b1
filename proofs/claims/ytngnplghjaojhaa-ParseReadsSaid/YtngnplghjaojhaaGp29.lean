/- The document's state: a term. -/
import Derived.Test.YtngnplghjaojhaaGp28
import Derived.Test.YtngnplghjaojhaaGp26
namespace Go.Proofs.Ytngnplghjaojhaa
set_option maxRecDepth 100000
set_option maxHeartbeats 2000000
set_option linter.unusedSimpArgs false
open Go.RowKit Go.Shelf Go.Sort
attribute [local go_sem] Oper.semAt_some wide_fn wide_depth
set_option linter.unusedVariables false
theorem boxes3 (w : World) (xs : List Value) (t : TypeId) (ys : List Value) (u : TypeId) (zs : List Value) (v : TypeId) :
    Ext w (((w.alloc (.cells xs.toArray t)).alloc (.cells ys.toArray u)).alloc (.cells zs.toArray v)) ∧ RowAt (((w.alloc (.cells xs.toArray t)).alloc (.cells ys.toArray u)).alloc (.cells zs.toArray v)) w.heap.size t xs ∧
    RowAt (((w.alloc (.cells xs.toArray t)).alloc (.cells ys.toArray u)).alloc (.cells zs.toArray v)) (w.heap.size + 1) u ys ∧ RowAt (((w.alloc (.cells xs.toArray t)).alloc (.cells ys.toArray u)).alloc (.cells zs.toArray v)) (w.heap.size + 1 + 1) v zs := by
  obtain ⟨h1, h2, h3⟩ := boxes2 w xs t ys u
  have hx := Ext.alloc ((w.alloc (.cells xs.toArray t)).alloc (.cells ys.toArray u)) (.cells zs.toArray v)
  refine ⟨h1.trans hx, h2.ext hx, h3.ext hx, ?_⟩
  have := RowAt.new ((w.alloc (.cells xs.toArray t)).alloc (.cells ys.toArray u)) v zs
  rwa [World.size_alloc, World.size_alloc] at this
theorem results_cc1 {P : Program} {fn : Func} {p q u : Tmp} {ty ty2 : TypeId} (h : fn.results = #[.cell p ty, .cell q ty2, .tmp u]) {tmps : Array Value} {w : World} {g g2 : Nat} {t t2 : TypeId} {xs ys : List Value} {d d2 : TypeDesc}
    (hp : tmps.getD p undef = .pointer (some ⟨g, 0, none⟩)) (hg : RowAt w g t xs) (hu : P.underlying ty = some d) (hd : d.isRow = true) (hi : (P.info? ty).map (·.size) = some xs.length)
    (hp2 : tmps.getD q undef = .pointer (some ⟨g2, 0, none⟩)) (hg2 : RowAt w g2 t2 ys) (hu2 : P.underlying ty2 = some d2) (hd2 : d2.isRow = true) (hi2 : (P.info? ty2).map (·.size) = some ys.length) :
    (results fn tmps).run P w = .ok (.tuple #[.agg xs.toArray, .agg ys.toArray, tmps.getD u undef]) w := by
  have hp' : tmps[p]?.getD undef = .pointer (some ⟨g, 0, none⟩) := by simpa using hp
  have hp2' : tmps[q]?.getD undef = .pointer (some ⟨g2, 0, none⟩) := by simpa using hp2
  simp [results, h, hp', hp2', asAddr, load_whole hg hu hd hi, load_whole hg2 hu2 hd2 hi2]
set_option maxRecDepth 100000 in
set_option maxHeartbeats 4000000 in
theorem aTermQ {w : World} {ts : List Tk} {a : Option Addr} {k p : Nat} (h : TkQ w ts a k) (hp : p ≤ ts.length) (c : Sc) (bad : Bool) (v : Value) (T : List ByteArray) (B : Nat) (hv : Strs w v T) (hfr : Fresh B v T) (hB : B ≤ w.heap.size) (hT : T.length ≤ 100000) :
    Calls Try.prog 87 #[.agg (stL c (.slice a ts.length k) p bad).toArray, v] w fun e w' => ∃ u,
      e = .returned (.tuple #[.agg (stL c (.slice a ts.length k) (aTermF ts T p bad).1 (aTermF ts T p bad).2.1).toArray, .agg #[.bool (aTermF ts T p bad).2.2.1.1, .string (aTermF ts T p bad).2.2.1.2], u]) ∧ (Strs w' u (aTermF ts T p bad).2.2.2 ∧ Fresh B u (aTermF ts T p bad).2.2.2) ∧ Ext w w' := by
  by_cases hb2 : bad = false ∧ kindAt ts p = 2
  · unfold aTermF
    rw [if_pos hb2]
    obtain ⟨rfl, hk⟩ := hb2
    refine (aTermS_key ⟨h.toks, hp, h.szs⟩ c v hk h.few).mono ?_
    rintro e w' ⟨rfl, hx⟩
    exact ⟨_, rfl, ⟨Strs.ext hv hx, hfr⟩, hx⟩
  have hmo : Try.prog.follows .mixedOrders = true := by kernel_rfl
  obtain ⟨⟨q, qb, ⟨fk, fn⟩, qT⟩, hR⟩ : ∃ R, aTermF ts T p bad = R := ⟨_, rfl⟩
  rw [hR]
  dsimp only
  have HF := Lib.hid hR
  have HTQ := Lib.hid h
  have HPP := Lib.hid hp
  have HV0 := Lib.hid hv
  have HTL := Lib.hid hT
  have HFR := Lib.hid hfr
  have HBB := Lib.hid hB
  have HB2 := Lib.hid hb2
  have HKK := Lib.hid (fun w' (hx : Ext w w') => kindQ (h.ext hx) hp c bad)
  have HC : Hid (bad = true ∨ (kindAt ts p == 2) = false) := Lib.hid (by
    cases bad with
    | true => exact .inl rfl
    | false => exact .inr (by simpa using hb2))
  clear h hp hR hv hT hb2 hfr hB
  -- a function with three boxes at its head: colander/colanderref16.aTerm its name, stL c (.slice a ts.length k) p bad [.slice none 0 0, .int .i64 0, .bool false, .slice none 0 0, .slice none 0 0, .bool false, .bool false, .bool false, .int .i64 0, .int .i64 0, .slice none 0 0, .int .i64 0] [.bool false, .string ⟨#[]⟩] their cells (lists), colanderref16.State colanderref16.State api.Term their types' names
  have hbx := boxes3 w (stL c (.slice a ts.length k) p bad) 70 ([.slice none 0 0, .int .i64 0, .bool false, .slice none 0 0, .slice none 0 0, .bool false, .bool false, .bool false, .int .i64 0, .int .i64 0, .slice none 0 0, .int .i64 0]) 70 ([.bool false, .string ⟨#[]⟩]) 62
  have HBX := Lib.hid hbx
  clear hbx
  go_enter Try.func87, Try.ntmps87
  go_upto_region 1 with fail
  generalize ((w.alloc (.cells (stL c (.slice a ts.length k) p bad).toArray 70)).alloc (.cells ([.slice none 0 0, .int .i64 0, .bool false, .slice none 0 0, .slice none 0 0, .bool false, .bool false, .bool false, .int .i64 0, .int .i64 0, .slice none 0 0, .int .i64 0]).toArray 70)).alloc (.cells ([.bool false, .string ⟨#[]⟩]).toArray 62) = w1 at *
  obtain ⟨y0, hy0⟩ : ∃ x, w.heap.size = x := ⟨_, rfl⟩
  obtain ⟨y1, hy1⟩ : ∃ x, y0 + 1 = x := ⟨_, rfl⟩
  obtain ⟨y2, hy2⟩ : ∃ x, y1 + 1 = x := ⟨_, rfl⟩
  rw [hy0, hy1, hy2] at HBX
  simp only [hy0, hy1, hy2]
  have HN := Lib.hid (show w.heap.size = y0 ∧ y0 + 1 = y1 ∧ y1 + 1 = y2 from ⟨hy0, hy1, hy2⟩)
  have HX := Lib.hid HBX.out.1
  have H0 := Lib.hid HBX.out.2.1
  have H1 := Lib.hid HBX.out.2.2.1
  have H2 := Lib.hid HBX.out.2.2.2
  clear hy0 hy1 hy2 HBX
  go_cut [0, 18] (fun s0 s wx => s = .bool false ∧ Ext w1 wx)
  case first =>
    rcases HC.out with rfl | hkn
    · have d2 := H0.out.cell (i := 2) rfl
      go_wp2_with fail
      go_meet
      exact ⟨rfl, Ext.refl _⟩
    · cases bad with
      | true =>
        have d2 := H0.out.cell (i := 2) rfl
        clear hkn
        go_wp2_with fail
        go_meet
        exact ⟨rfl, Ext.refl _⟩
      | false =>
        obtain ⟨f0, f1, f2, f3, f4, f5, f6, f7, f8, f9, f10, f11⟩ := stQ_facts H0.out
        have HKK2 := Lib.hid (HKK.out w1 HX.out)
        generalize kindAt ts p = kk at *
        go_wp2_with fail
        refine HKK2.out.mono ?_
        rintro e w2 ⟨rfl, hx2⟩
        clear f0 f1 f2 f3 f4 f5 f6 f7 f8 f9 f10 f11
        have HX2 := Lib.hid hx2
        clear hx2
        go_wp2_with fail
        go_meet
        exact ⟨rfl, HX2.out⟩
  case rest =>
    obtain ⟨rfl, hxc⟩ := hcut
    obtain ⟨w2, rfl⟩ : ∃ z, z = wc := ⟨_, rfl⟩
    -- memory has been made
    replace HX := Lib.hid (HX.out.trans hxc)
    replace H0 := Lib.hid (H0.out.ext hxc)
    replace H1 := Lib.hid (H1.out.ext hxc)
    try replace H2 := Lib.hid (H2.out.ext hxc)
    try replace H3 := Lib.hid (H3.out.ext hxc)
    try replace HS4 := Lib.hid (Strs.ext HS4.out hxc)
    try replace HOA := Lib.hid (own_ext HOA.out hxc)
    try replace HOR := Lib.hid (own_ext HOR.out hxc)
    try replace HOH := Lib.hid (own_ext HOH.out hxc)
    clear hxc
    clear HKK HC
    go_upto_region 4 with fail
    -- the document's state in box y0 is handed to take, and what comes is put back (the region's operations up to the store): c the state's cells c, p place, bad bad, 1 kind, HPP.out place within, p1 new place, b1 new bad, x1 the text, w3 world behind. Facts: HTQ, HX, H0, H1, HN
    have htk := takeQ (HTQ.out.ext HX.out) (HPP.out) c bad 1 (by decide)
    obtain ⟨⟨p1, b1, x1⟩, hr⟩ : ∃ r, takeR ts 1 p bad = r := ⟨_, rfl⟩
    rw [hr] at htk
    dsimp only at htk
    have HTK := Lib.hid htk
    have HRp1 := Lib.hid hr
    have HPp1 := Lib.hid (show p1 ≤ ts.length by have h := takeR_le (ts := ts) (HPP.out) (q := 1) (by decide) bad; rw [hr] at h; exact h)
    clear htk hr
    apply wp_region_lit
    -- a load of a whole row: y0 block, H0.out fact RowAt, colanderref16.State the type's name
    refine plain_load rfl _ _ rfl y0 rfl _ _ (H0.out) Try.underlying70 rfl (by kernel_rfl) ?_
    go_simp
    -- a call in a plain region: refine HTK.out.mono ?_; rintro e wt ⟨rfl, hxt⟩ the contract taken, and its results named
    refine wpList_plain rfl fun K1 hK1 => ?_
    go_simp
    refine HTK.out.mono ?_; rintro e wt ⟨rfl, hxt⟩
    go_simp
    refine hK1 _ _ ?_
    clear hK1 K1
    -- memory has been made
    replace HX := Lib.hid (HX.out.trans hxt)
    replace H0 := Lib.hid (H0.out.ext hxt)
    replace H1 := Lib.hid (H1.out.ext hxt)
    try replace H2 := Lib.hid (H2.out.ext hxt)
    try replace H3 := Lib.hid (H3.out.ext hxt)
    try replace HS4 := Lib.hid (Strs.ext HS4.out hxt)
    try replace HOA := Lib.hid (own_ext HOA.out hxt)
    try replace HOR := Lib.hid (own_ext HOR.out hxt)
    try replace HOH := Lib.hid (own_ext HOH.out hxt)
    clear hxt
    refine wpList_plain rfl fun K1 hK1 => ?_
    go_simp
    refine hK1 _ _ ?_
    clear hK1 K1
    refine wpList_plain rfl fun K1 hK1 => ?_
    go_simp
    refine hK1 _ _ ?_
    clear hK1 K1
    refine wpList_plain rfl fun K1 hK1 => ?_
    go_simp
    refine hK1 _ _ ?_
    clear hK1 K1
    -- a state's row is put into box y0: (c) cells, p1 place, b1 bad, wt world, w3 world behind
    refine plain_store rfl _ _ _ rfl y0 (stL (c) (.slice a ts.length k) p1 b1) rfl rfl (H0.out) (by kernel_rfl) rfl (stL_one (c) _ _ _ _ _) ?_
    go_simp
    replace HX := Lib.hid (show Ext w (wt.setRow y0 (stL (c) (.slice a ts.length k) p1 b1).toArray) from below_setRow HX.out (by have := HN.out; omega) _)
    replace H1 := Lib.hid (row_far H1.out (stL (c) (.slice a ts.length k) p1 b1).toArray (show y1 ≠ y0 by have := HN.out; omega))
    try replace HOA := Lib.hid (own_turn HOA.out H0.out (by decide) (setRow_grown wt y0 (stL (c) (.slice a ts.length k) p1 b1).toArray))
    try replace HOR := Lib.hid (own_turn HOR.out H0.out (by decide) (setRow_grown wt y0 (stL (c) (.slice a ts.length k) p1 b1).toArray))
    try replace HOH := Lib.hid (own_turn HOH.out H0.out (by decide) (setRow_grown wt y0 (stL (c) (.slice a ts.length k) p1 b1).toArray))
    replace H0 := Lib.hid (H0.out.setRow (stL (c) (.slice a ts.length k) p1 b1))
    try replace H2 := Lib.hid (row_far H2.out (stL (c) (.slice a ts.length k) p1 b1).toArray (show y2 ≠ y0 by have := HN.out; omega))
    try replace HS4 := Lib.hid (HF4.out.stay HS4.out (y := y0) (by have := HN.out; omega) (stL (c) (.slice a ts.length k) p1 b1).toArray)
    generalize wt.setRow y0 (stL (c) (.slice a ts.length k) p1 b1).toArray = w3 at *
    clear HTK
    refine wpList_plain rfl fun K1 hK1 => ?_
    go_simp
    refine hK1 _ _ ?_
    clear hK1 K1
    apply wpList_nil
    go_upto_region 6 with fail
    have hxa := Ext.alloc w3 (.cells #[.bool false, .string x1] 62)
    have H3 := Lib.hid (RowAt.new w3 62 [.bool false, .string x1])
    have HN3 := Lib.hid (show y2 < w3.heap.size ∧ w3.heap.size < (w3.alloc (.cells #[.bool false, .string x1] 62)).heap.size from ⟨H2.out.lt, (RowAt.new w3 62 [.bool false, .string x1]).lt⟩)
    generalize w3.alloc (.cells #[.bool false, .string x1] 62) = w4 at *
    obtain ⟨y3, hy3⟩ : ∃ y, w3.heap.size = y := ⟨_, rfl⟩
    rw [hy3] at H3 HN3
    simp only [hy3]
    clear hy3
    -- memory has been made
    replace HX := Lib.hid (HX.out.trans hxa)
    replace H0 := Lib.hid (H0.out.ext hxa)
    replace H1 := Lib.hid (H1.out.ext hxa)
    try replace H2 := Lib.hid (H2.out.ext hxa)
    try replace H3 := Lib.hid (H3.out.ext hxa)
    try replace HS4 := Lib.hid (Strs.ext HS4.out hxa)
    try replace HOA := Lib.hid (own_ext HOA.out hxa)
    try replace HOR := Lib.hid (own_ext HOR.out hxa)
    try replace HOH := Lib.hid (own_ext HOH.out hxa)
    clear hxa
    have HTM := Lib.hid (termS_own v T false x1 w4 (Strs.ext HV0.out HX.out) (by have := HTL.out; omega))
    have g0 := H3.out.cell (i := 0) rfl
    have g1 := H3.out.cell (i := 1) rfl
    go_wp2_with fail
    refine HTM.out.mono ?_
    rintro e w5 ⟨u, rfl, hu', hx5⟩
    have hfar : Far w.heap.size w4.heap.size u (termS T (false, x1)) := by
      rcases hu' with ⟨rfl, hr⟩ | ho
      · rw [hr]; exact Far.old HV0.out _
      · exact Far.own ho
    have hu : Strs w5 u (termS T (false, x1)) := by
      rcases hu' with ⟨rfl, hr⟩ | ho
      · rw [hr]; exact Strs.ext HV0.out (HX.out.trans hx5)
      · exact Sl.of_own ho
    have hfs : Fresh B u (termS T (false, x1)) := by
      rcases hu' with ⟨rfl, hr⟩ | ho
      · rw [hr]; exact HFR.out
      · exact (Fresh.own ho).low (Nat.le_trans HBB.out HX.out.size)
    have HFAR := Lib.hid hfar
    have HFS := Lib.hid hfs
    clear hu' hfar hfs
    -- memory has been made
    replace HX := Lib.hid (HX.out.trans hx5)
    replace H0 := Lib.hid (H0.out.ext hx5)
    replace H1 := Lib.hid (H1.out.ext hx5)
    try replace H2 := Lib.hid (H2.out.ext hx5)
    try replace H3 := Lib.hid (H3.out.ext hx5)
    try replace HS4 := Lib.hid (Strs.ext HS4.out hx5)
    try replace HOA := Lib.hid (own_ext HOA.out hx5)
    try replace HOR := Lib.hid (own_ext HOR.out hx5)
    try replace HOH := Lib.hid (own_ext HOH.out hx5)
    clear hx5
    clear g0 g1 HTM
    have hf := HF.out
    unfold aTermF at hf
    rw [if_neg HB2.out, HRp1.out] at hf
    dsimp only at hf
    have HV := Lib.hid hu
    have HTN := termS_len1 T (false, x1)
    obtain ⟨ua, uc, rfl, hc1, hc2⟩ := Sl.shape hu
    clear hu hc1 hc2
    generalize termS T (false, x1) = T2 at *
    have d2 := H0.out.cell (i := 2) rfl
    cases b1 with
    | true =>
      rw [if_neg (by simp)] at hf
      cases hf
      go_upto_region 9 with fail
      clear d2 HTN
      -- gen_aterm.py: region 9: q place, true bad, (.slice ua qT.length uc) variables
      refine wp_region_inv [50, 51, 52, 9999, 9999, 6] _ (fun i => ([[], [], [], [0], [1], [2]] : List (List Nat)).getD i []) (fun S us W => PlS [some (.agg (stL c (.slice a ts.length k) (q) true).toArray), some (.agg ([.bool false, .string fn] : List Value).toArray), some ((.slice ua qT.length uc)), some (undef), some (undef), some ((.slice ua qT.length uc))] S us ∧ (fun (S : Nat → Bool) (W : World) => Ext w W ∧ RowAt W y0 70 (stL c (.slice a ts.length k) (q) true) ∧ RowAt W y3 62 [.bool false, .string fn] ∧ RowAt W y1 70 (if S 3 = true then stL c (.slice a ts.length k) (q) true else [.slice none 0 0, .int .i64 0, .bool false, .slice none 0 0, .slice none 0 0, .bool false, .bool false, .bool false, .int .i64 0, .int .i64 0, .slice none 0 0, .int .i64 0]) ∧ RowAt W y2 62 (if S 4 = true then [.bool false, .string fn] else [.bool false, .string ⟨#[]⟩]) ∧ Strs W (.slice ua qT.length uc) qT) S W) hmo (by kernel_rfl) (by kernel_rfl) (puts_self _ _) ⟨PlS.start rfl, HX.out.trans (Ext.drewN _ 1), H0.out.ext (Ext.drewN _ 1), H3.out.ext (Ext.drewN _ 1), H1.out.ext (Ext.drewN _ 1), H2.out.ext (Ext.drewN _ 1), Strs.ext HV.out (Ext.drewN _ 1)⟩ ?_ ?_
      · refine ⟨?_, ?_, ?_, ?_, ?_, ?_, trivial⟩
        all_goals
          rintro S us wq hd hn ⟨hF, hI⟩ K hK
          obtain ⟨u0, u1, u2, u3, u4, u5, rfl⟩ := len6 hF.len rfl
          have HK := Lib.hid (fun us' w'' h hi => hK us' w'' ⟨h, hi⟩)
          have HF := Lib.hid hF
          have HN2 := Lib.hid hn
          have HD := Lib.hid hd
          clear hK hF hn hd
          simp only [puts, Act.put, List.setIfInBounds_toArray, List.set_cons_succ, List.set_cons_zero, List.set_nil]
        · have hk := HK.out _ wq  (HF.out.put (i := 0) (v := .agg (stL c (.slice a ts.length k) (q) true).toArray) rfl) hI
          simp only [puts, Act.put, List.setIfInBounds_toArray, List.set_cons_succ, List.set_cons_zero, List.set_nil] at hk
          rw [if_pos (show Region.wanted _ _ = true from rfl)]
          refine wp_load_mid _ _ rfl y0 0 rfl _ _ hI.2.1.whole Try.underlying70 rfl (by kernel_rfl) ?_
          simp only [puts, Act.put, List.setIfInBounds_toArray, List.set_cons_succ, List.set_cons_zero, List.set_nil]
          exact hk
        · have hk := HK.out _ wq  (HF.out.put (i := 1) (v := .agg ([.bool false, .string fn] : List Value).toArray) rfl) hI
          simp only [puts, Act.put, List.setIfInBounds_toArray, List.set_cons_succ, List.set_cons_zero, List.set_nil] at hk
          rw [if_pos (show Region.wanted _ _ = true from rfl)]
          refine wp_load_mid _ _ rfl y3 0 rfl _ _ hI.2.2.1.whole Try.underlying62 rfl (by kernel_rfl) ?_
          simp only [puts, Act.put, List.setIfInBounds_toArray, List.set_cons_succ, List.set_cons_zero, List.set_nil]
          exact hk
        · have hk := HK.out _ wq  (HF.out.put (i := 2) (v := (.slice ua qT.length uc)) rfl) hI
          simp only [puts, Act.put, List.setIfInBounds_toArray, List.set_cons_succ, List.set_cons_zero, List.set_nil] at hk
          go_simp
          exact hk
        · obtain rfl := HF.out.got (HD.out 0 (by decide)) (i := 0) rfl rfl
          have hr1 := hI.2.2.2.1
          rw [if_neg (by rw [HN2.out]; simp)] at hr1
          have hs : RowAt (wq.setRow y1 (stL c (.slice a ts.length k) (q) true).toArray) y1 70 (if updB S 3 3 = true then stL c (.slice a ts.length k) (q) true else [.slice none 0 0, .int .i64 0, .bool false, .slice none 0 0, .slice none 0 0, .bool false, .bool false, .bool false, .int .i64 0, .int .i64 0, .slice none 0 0, .int .i64 0]) := by rw [updB_at, if_pos rfl]; exact hr1.setRow (stL c (.slice a ts.length k) (q) true)
          have hk := HK.out _ _  (HF.out.put (i := 3) (v := undef) rfl) ⟨below_setRow hI.1 (by have := HN.out; omega) _, row_far hI.2.1 _ (by have := HN.out; omega), row_far hI.2.2.1 _ (by have := HN.out; have := HN3.out; omega), hs, row_far hI.2.2.2.2.1 _ (by have := HN.out; omega), HFAR.out.stay hI.2.2.2.2.2 (by have := HN.out; omega) (by have := HN.out; have := HN3.out; omega) _⟩
          simp only [puts, Act.put, List.setIfInBounds_toArray, List.set_cons_succ, List.set_cons_zero, List.set_nil] at hk
          rw [if_pos (show Region.wanted _ _ = true from rfl)]
          refine wp_store_row _ _ _ rfl y1 (stL c (.slice a ts.length k) (q) true).toArray rfl rfl _ _ hr1 (by kernel_rfl) rfl (all_oneCell_toArray (stL_one c _ _ _ _ _)) ?_
          simp only [puts, Act.put, List.setIfInBounds_toArray, List.set_cons_succ, List.set_cons_zero, List.set_nil]
          exact hk
        · obtain rfl := HF.out.got (HD.out 1 (by decide)) (i := 1) rfl rfl
          have hr2 := hI.2.2.2.2.1
          rw [if_neg (by rw [HN2.out]; simp)] at hr2
          have hs : RowAt (wq.setRow y2 ([.bool false, .string fn] : List Value).toArray) y2 62 (if updB S 4 4 = true then [.bool false, .string fn] else [.bool false, .string ⟨#[]⟩]) := by rw [updB_at, if_pos rfl]; exact hr2.setRow [.bool false, .string fn]
          have hk := HK.out _ _  (HF.out.put (i := 4) (v := undef) rfl) ⟨below_setRow hI.1 (by have := HN.out; omega) _, row_far hI.2.1 _ (by have := HN.out; omega), row_far hI.2.2.1 _ (by have := HN.out; have := HN3.out; omega), row_far hI.2.2.2.1 _ (by have := HN.out; omega), hs, HFAR.out.stay hI.2.2.2.2.2 (by have := HN.out; omega) (by have := HN.out; have := HN3.out; omega) _⟩
          simp only [puts, Act.put, List.setIfInBounds_toArray, List.set_cons_succ, List.set_cons_zero, List.set_nil] at hk
          rw [if_pos (show Region.wanted _ _ = true from rfl)]
          refine wp_store_row _ _ _ rfl y2 ([.bool false, .string fn] : List Value).toArray rfl rfl _ _ hr2 (by kernel_rfl) rfl (all_oneCell_toArray (by simp [Value.oneCell'])) ?_
          simp only [puts, Act.put, List.setIfInBounds_toArray, List.set_cons_succ, List.set_cons_zero, List.set_nil]
          exact hk
        · obtain rfl := HF.out.got (HD.out 2 (by decide)) (i := 2) rfl rfl
          have hk := HK.out _ wq  (HF.out.put (i := 5) (v := (.slice ua qT.length uc)) rfl) hI
          simp only [puts, Act.put, List.setIfInBounds_toArray, List.set_cons_succ, List.set_cons_zero, List.set_nil] at hk
          go_simp
          exact hk
      · rintro S us wq hS ⟨hF, hI⟩
        obtain ⟨u0, u1, u2, u3, u4, u5, rfl⟩ := len6 hF.len rfl
        obtain rfl := hF.got (hS 0 (by decide)) (i := 0) rfl rfl
        obtain rfl := hF.got (hS 1 (by decide)) (i := 1) rfl rfl
        obtain rfl := hF.got (hS 2 (by decide)) (i := 2) rfl rfl
        obtain rfl := hF.got (hS 3 (by decide)) (i := 3) rfl rfl
        obtain rfl := hF.got (hS 4 (by decide)) (i := 4) rfl rfl
        obtain rfl := hF.got (hS 5 (by decide)) (i := 5) rfl rfl
        have HS := Lib.hid hS
        clear hF hS
        simp only [puts, Act.put, List.setIfInBounds_toArray, List.set_cons_succ, List.set_cons_zero, List.set_nil]
        obtain ⟨hX, _, _, h1, h2, hq⟩ := hI
        rw [if_pos (HS.out 3 (by decide))] at h1
        rw [if_pos (HS.out 4 (by decide))] at h2
        have HXE := Lib.hid hX
        have HQE := Lib.hid hq
        have HR1 := Lib.hid h1
        have HR2 := Lib.hid h2
        clear hX h1 h2 hq HS
        go_wp2_with fail
        refine bodyPost_ret (results_cc1 rfl rfl HR1.out Try.underlying70 rfl (by kernel_rfl) rfl HR2.out Try.underlying62 rfl (by kernel_rfl)) rfl ⟨_, rfl, ?_, HXE.out⟩
        exact ⟨HQE.out, HFS.out⟩
    | false =>
      obtain ⟨rfl, hlt, rfl, hk9, hx9⟩ := takeR_good (by decide) HRp1.out
      clear hk9 hx9
      by_cases hbig : 32 < T2.length
      · rw [if_pos ⟨by trivial, hbig⟩] at hf
        cases hf
        have HWR := Lib.hid (fun W (hx : Ext w W) => wrongQ (p := p) (HTQ.out.ext hx) (by omega) c false)
        have hbg : (32 : Int) < (qT.length : Int) := by omega
        go_upto_region 8 with fail
        clear d2 HTN hbg hbig
        -- gen_aterm.py: region 8: (.slice ua qT.length uc) variables
        refine wp_region_inv [46, 47, 48, 49, 9999, 9999, 6] _ (fun i => ([[], [0], [], [], [1], [2], [3]] : List (List Nat)).getD i []) (fun S us W => PlS [some (.agg (stL c (.slice a ts.length k) (p + 1) false).toArray), some (.agg (stL c (.slice a ts.length k) (p) true).toArray), some (.agg ([.bool false, .string fn] : List Value).toArray), some ((.slice ua qT.length uc)), some (undef), some (undef), some ((.slice ua qT.length uc))] S us ∧ (fun (S : Nat → Bool) (W : World) => Ext w W ∧ RowAt W y0 70 (stL c (.slice a ts.length k) (p + 1) false) ∧ RowAt W y3 62 [.bool false, .string fn] ∧ RowAt W y1 70 (if S 4 = true then stL c (.slice a ts.length k) (p) true else [.slice none 0 0, .int .i64 0, .bool false, .slice none 0 0, .slice none 0 0, .bool false, .bool false, .bool false, .int .i64 0, .int .i64 0, .slice none 0 0, .int .i64 0]) ∧ RowAt W y2 62 (if S 5 = true then [.bool false, .string fn] else [.bool false, .string ⟨#[]⟩]) ∧ Strs W (.slice ua qT.length uc) qT) S W) hmo (by kernel_rfl) (by kernel_rfl) (puts_self _ _) ⟨PlS.start rfl, HX.out.trans (Ext.drewN _ 1), H0.out.ext (Ext.drewN _ 1), H3.out.ext (Ext.drewN _ 1), H1.out.ext (Ext.drewN _ 1), H2.out.ext (Ext.drewN _ 1), Strs.ext HV.out (Ext.drewN _ 1)⟩ ?_ ?_
        · refine ⟨?_, ?_, ?_, ?_, ?_, ?_, ?_, trivial⟩
          all_goals
            rintro S us wq hd hn ⟨hF, hI⟩ K hK
            obtain ⟨u0, u1, u2, u3, u4, u5, u6, rfl⟩ := len7 hF.len rfl
            have HK := Lib.hid (fun us' w'' h hi => hK us' w'' ⟨h, hi⟩)
            have HF := Lib.hid hF
            have HN2 := Lib.hid hn
            have HD := Lib.hid hd
            clear hK hF hn hd
            simp only [puts, Act.put, List.setIfInBounds_toArray, List.set_cons_succ, List.set_cons_zero, List.set_nil]
          · have hk := HK.out _ wq  (HF.out.put (i := 0) (v := .agg (stL c (.slice a ts.length k) (p + 1) false).toArray) rfl) hI
            simp only [puts, Act.put, List.setIfInBounds_toArray, List.set_cons_succ, List.set_cons_zero, List.set_nil] at hk
            rw [if_pos (show Region.wanted _ _ = true from rfl)]
            refine wp_load_mid _ _ rfl y0 0 rfl _ _ hI.2.1.whole Try.underlying70 rfl (by kernel_rfl) ?_
            simp only [puts, Act.put, List.setIfInBounds_toArray, List.set_cons_succ, List.set_cons_zero, List.set_nil]
            exact hk
          · obtain rfl := HF.out.got (HD.out 0 (by decide)) (i := 0) rfl rfl
            go_simp
            refine (HWR.out wq hI.1).mono ?_
            rintro e w9 ⟨rfl, hx⟩
            have hk := HK.out _ w9  (HF.out.put (i := 1) (v := .agg (stL c (.slice a ts.length k) (p) true).toArray) rfl) ⟨hI.1.trans hx, hI.2.1.ext hx, hI.2.2.1.ext hx, hI.2.2.2.1.ext hx, hI.2.2.2.2.1.ext hx, Strs.ext hI.2.2.2.2.2 hx⟩
            simp only [puts, Act.put, List.setIfInBounds_toArray, List.set_cons_succ, List.set_cons_zero, List.set_nil] at hk
            go_simp
            exact hk
          · have hk := HK.out _ wq  (HF.out.put (i := 2) (v := .agg ([.bool false, .string fn] : List Value).toArray) rfl) hI
            simp only [puts, Act.put, List.setIfInBounds_toArray, List.set_cons_succ, List.set_cons_zero, List.set_nil] at hk
            rw [if_pos (show Region.wanted _ _ = true from rfl)]
            refine wp_load_mid _ _ rfl y3 0 rfl _ _ hI.2.2.1.whole Try.underlying62 rfl (by kernel_rfl) ?_
            simp only [puts, Act.put, List.setIfInBounds_toArray, List.set_cons_succ, List.set_cons_zero, List.set_nil]
            exact hk
          · have hk := HK.out _ wq  (HF.out.put (i := 3) (v := (.slice ua qT.length uc)) rfl) hI
            simp only [puts, Act.put, List.setIfInBounds_toArray, List.set_cons_succ, List.set_cons_zero, List.set_nil] at hk
            go_simp
            exact hk
          · obtain rfl := HF.out.got (HD.out 1 (by decide)) (i := 1) rfl rfl
            have hr1 := hI.2.2.2.1
            rw [if_neg (by rw [HN2.out]; simp)] at hr1
            have hs : RowAt (wq.setRow y1 (stL c (.slice a ts.length k) (p) true).toArray) y1 70 (if updB S 4 4 = true then stL c (.slice a ts.length k) (p) true else [.slice none 0 0, .int .i64 0, .bool false, .slice none 0 0, .slice none 0 0, .bool false, .bool false, .bool false, .int .i64 0, .int .i64 0, .slice none 0 0, .int .i64 0]) := by rw [updB_at, if_pos rfl]; exact hr1.setRow (stL c (.slice a ts.length k) (p) true)
            have hk := HK.out _ _  (HF.out.put (i := 4) (v := undef) rfl) ⟨below_setRow hI.1 (by have := HN.out; omega) _, row_far hI.2.1 _ (by have := HN.out; omega), row_far hI.2.2.1 _ (by have := HN.out; have := HN3.out; omega), hs, row_far hI.2.2.2.2.1 _ (by have := HN.out; omega), HFAR.out.stay hI.2.2.2.2.2 (by have := HN.out; omega) (by have := HN.out; have := HN3.out; omega) _⟩
            simp only [puts, Act.put, List.setIfInBounds_toArray, List.set_cons_succ, List.set_cons_zero, List.set_nil] at hk
            rw [if_pos (show Region.wanted _ _ = true from rfl)]
            refine wp_store_row _ _ _ rfl y1 (stL c (.slice a ts.length k) (p) true).toArray rfl rfl _ _ hr1 (by kernel_rfl) rfl (all_oneCell_toArray (stL_one c _ _ _ _ _)) ?_
            simp only [puts, Act.put, List.setIfInBounds_toArray, List.set_cons_succ, List.set_cons_zero, List.set_nil]
            exact hk
          · obtain rfl := HF.out.got (HD.out 2 (by decide)) (i := 2) rfl rfl
            have hr2 := hI.2.2.2.2.1
            rw [if_neg (by rw [HN2.out]; simp)] at hr2
            have hs : RowAt (wq.setRow y2 ([.bool false, .string fn] : List Value).toArray) y2 62 (if updB S 5 5 = true then [.bool false, .string fn] else [.bool false, .string ⟨#[]⟩]) := by rw [updB_at, if_pos rfl]; exact hr2.setRow [.bool false, .string fn]
            have hk := HK.out _ _  (HF.out.put (i := 5) (v := undef) rfl) ⟨below_setRow hI.1 (by have := HN.out; omega) _, row_far hI.2.1 _ (by have := HN.out; omega), row_far hI.2.2.1 _ (by have := HN.out; have := HN3.out; omega), row_far hI.2.2.2.1 _ (by have := HN.out; omega), hs, HFAR.out.stay hI.2.2.2.2.2 (by have := HN.out; omega) (by have := HN.out; have := HN3.out; omega) _⟩
            simp only [puts, Act.put, List.setIfInBounds_toArray, List.set_cons_succ, List.set_cons_zero, List.set_nil] at hk
            rw [if_pos (show Region.wanted _ _ = true from rfl)]
            refine wp_store_row _ _ _ rfl y2 ([.bool false, .string fn] : List Value).toArray rfl rfl _ _ hr2 (by kernel_rfl) rfl (all_oneCell_toArray (by simp [Value.oneCell'])) ?_
            simp only [puts, Act.put, List.setIfInBounds_toArray, List.set_cons_succ, List.set_cons_zero, List.set_nil]
            exact hk
          · obtain rfl := HF.out.got (HD.out 3 (by decide)) (i := 3) rfl rfl
            have hk := HK.out _ wq  (HF.out.put (i := 6) (v := (.slice ua qT.length uc)) rfl) hI
            simp only [puts, Act.put, List.setIfInBounds_toArray, List.set_cons_succ, List.set_cons_zero, List.set_nil] at hk
            go_simp
            exact hk
        · rintro S us wq hS ⟨hF, hI⟩
          obtain ⟨u0, u1, u2, u3, u4, u5, u6, rfl⟩ := len7 hF.len rfl
          obtain rfl := hF.got (hS 0 (by decide)) (i := 0) rfl rfl
          obtain rfl := hF.got (hS 1 (by decide)) (i := 1) rfl rfl
          obtain rfl := hF.got (hS 2 (by decide)) (i := 2) rfl rfl
          obtain rfl := hF.got (hS 3 (by decide)) (i := 3) rfl rfl
          obtain rfl := hF.got (hS 4 (by decide)) (i := 4) rfl rfl
          obtain rfl := hF.got (hS 5 (by decide)) (i := 5) rfl rfl
          obtain rfl := hF.got (hS 6 (by decide)) (i := 6) rfl rfl
          have HS := Lib.hid hS
          clear hF hS
          simp only [puts, Act.put, List.setIfInBounds_toArray, List.set_cons_succ, List.set_cons_zero, List.set_nil]
          obtain ⟨hX, _, _, h1, h2, hq⟩ := hI
          rw [if_pos (HS.out 4 (by decide))] at h1
          rw [if_pos (HS.out 5 (by decide))] at h2
          have HXE := Lib.hid hX
          have HQE := Lib.hid hq
          have HR1 := Lib.hid h1
          have HR2 := Lib.hid h2
          clear hX h1 h2 hq HS
          go_wp2_with fail
          refine bodyPost_ret (results_cc1 rfl rfl HR1.out Try.underlying70 rfl (by kernel_rfl) rfl HR2.out Try.underlying62 rfl (by kernel_rfl)) rfl ⟨_, rfl, ?_, HXE.out⟩
          exact ⟨HQE.out, HFS.out⟩
      · rw [if_neg (by simp [hbig])] at hf
        cases hf
        have hbg : ¬ (32 : Int) < (qT.length : Int) := by omega
        go_upto_region 9 with fail
        clear d2 HTN hbg hbig
        -- gen_aterm.py: region 9: (p + 1) place, false bad, (.slice ua qT.length uc) variables
        refine wp_region_inv [50, 51, 52, 9999, 9999, 6] _ (fun i => ([[], [], [], [0], [1], [2]] : List (List Nat)).getD i []) (fun S us W => PlS [some (.agg (stL c (.slice a ts.length k) ((p + 1)) false).toArray), some (.agg ([.bool false, .string fn] : List Value).toArray), some ((.slice ua qT.length uc)), some (undef), some (undef), some ((.slice ua qT.length uc))] S us ∧ (fun (S : Nat → Bool) (W : World) => Ext w W ∧ RowAt W y0 70 (stL c (.slice a ts.length k) ((p + 1)) false) ∧ RowAt W y3 62 [.bool false, .string fn] ∧ RowAt W y1 70 (if S 3 = true then stL c (.slice a ts.length k) ((p + 1)) false else [.slice none 0 0, .int .i64 0, .bool false, .slice none 0 0, .slice none 0 0, .bool false, .bool false, .bool false, .int .i64 0, .int .i64 0, .slice none 0 0, .int .i64 0]) ∧ RowAt W y2 62 (if S 4 = true then [.bool false, .string fn] else [.bool false, .string ⟨#[]⟩]) ∧ Strs W (.slice ua qT.length uc) qT) S W) hmo (by kernel_rfl) (by kernel_rfl) (puts_self _ _) ⟨PlS.start rfl, HX.out.trans (Ext.drewN _ 1), H0.out.ext (Ext.drewN _ 1), H3.out.ext (Ext.drewN _ 1), H1.out.ext (Ext.drewN _ 1), H2.out.ext (Ext.drewN _ 1), Strs.ext HV.out (Ext.drewN _ 1)⟩ ?_ ?_
        · refine ⟨?_, ?_, ?_, ?_, ?_, ?_, trivial⟩
          all_goals
            rintro S us wq hd hn ⟨hF, hI⟩ K hK
            obtain ⟨u0, u1, u2, u3, u4, u5, rfl⟩ := len6 hF.len rfl
            have HK := Lib.hid (fun us' w'' h hi => hK us' w'' ⟨h, hi⟩)
            have HF := Lib.hid hF
            have HN2 := Lib.hid hn
            have HD := Lib.hid hd
            clear hK hF hn hd
            simp only [puts, Act.put, List.setIfInBounds_toArray, List.set_cons_succ, List.set_cons_zero, List.set_nil]
          · have hk := HK.out _ wq  (HF.out.put (i := 0) (v := .agg (stL c (.slice a ts.length k) ((p + 1)) false).toArray) rfl) hI
            simp only [puts, Act.put, List.setIfInBounds_toArray, List.set_cons_succ, List.set_cons_zero, List.set_nil] at hk
            rw [if_pos (show Region.wanted _ _ = true from rfl)]
            refine wp_load_mid _ _ rfl y0 0 rfl _ _ hI.2.1.whole Try.underlying70 rfl (by kernel_rfl) ?_
            simp only [puts, Act.put, List.setIfInBounds_toArray, List.set_cons_succ, List.set_cons_zero, List.set_nil]
            exact hk
          · have hk := HK.out _ wq  (HF.out.put (i := 1) (v := .agg ([.bool false, .string fn] : List Value).toArray) rfl) hI
            simp only [puts, Act.put, List.setIfInBounds_toArray, List.set_cons_succ, List.set_cons_zero, List.set_nil] at hk
            rw [if_pos (show Region.wanted _ _ = true from rfl)]
            refine wp_load_mid _ _ rfl y3 0 rfl _ _ hI.2.2.1.whole Try.underlying62 rfl (by kernel_rfl) ?_
            simp only [puts, Act.put, List.setIfInBounds_toArray, List.set_cons_succ, List.set_cons_zero, List.set_nil]
            exact hk
          · have hk := HK.out _ wq  (HF.out.put (i := 2) (v := (.slice ua qT.length uc)) rfl) hI
            simp only [puts, Act.put, List.setIfInBounds_toArray, List.set_cons_succ, List.set_cons_zero, List.set_nil] at hk
            go_simp
            exact hk
          · obtain rfl := HF.out.got (HD.out 0 (by decide)) (i := 0) rfl rfl
            have hr1 := hI.2.2.2.1
            rw [if_neg (by rw [HN2.out]; simp)] at hr1
            have hs : RowAt (wq.setRow y1 (stL c (.slice a ts.length k) ((p + 1)) false).toArray) y1 70 (if updB S 3 3 = true then stL c (.slice a ts.length k) ((p + 1)) false else [.slice none 0 0, .int .i64 0, .bool false, .slice none 0 0, .slice none 0 0, .bool false, .bool false, .bool false, .int .i64 0, .int .i64 0, .slice none 0 0, .int .i64 0]) := by rw [updB_at, if_pos rfl]; exact hr1.setRow (stL c (.slice a ts.length k) ((p + 1)) false)
            have hk := HK.out _ _  (HF.out.put (i := 3) (v := undef) rfl) ⟨below_setRow hI.1 (by have := HN.out; omega) _, row_far hI.2.1 _ (by have := HN.out; omega), row_far hI.2.2.1 _ (by have := HN.out; have := HN3.out; omega), hs, row_far hI.2.2.2.2.1 _ (by have := HN.out; omega), HFAR.out.stay hI.2.2.2.2.2 (by have := HN.out; omega) (by have := HN.out; have := HN3.out; omega) _⟩
            simp only [puts, Act.put, List.setIfInBounds_toArray, List.set_cons_succ, List.set_cons_zero, List.set_nil] at hk
            rw [if_pos (show Region.wanted _ _ = true from rfl)]
            refine wp_store_row _ _ _ rfl y1 (stL c (.slice a ts.length k) ((p + 1)) false).toArray rfl rfl _ _ hr1 (by kernel_rfl) rfl (all_oneCell_toArray (stL_one c _ _ _ _ _)) ?_
            simp only [puts, Act.put, List.setIfInBounds_toArray, List.set_cons_succ, List.set_cons_zero, List.set_nil]
            exact hk
          · obtain rfl := HF.out.got (HD.out 1 (by decide)) (i := 1) rfl rfl
            have hr2 := hI.2.2.2.2.1
            rw [if_neg (by rw [HN2.out]; simp)] at hr2
            have hs : RowAt (wq.setRow y2 ([.bool false, .string fn] : List Value).toArray) y2 62 (if updB S 4 4 = true then [.bool false, .string fn] else [.bool false, .string ⟨#[]⟩]) := by rw [updB_at, if_pos rfl]; exact hr2.setRow [.bool false, .string fn]
            have hk := HK.out _ _  (HF.out.put (i := 4) (v := undef) rfl) ⟨below_setRow hI.1 (by have := HN.out; omega) _, row_far hI.2.1 _ (by have := HN.out; omega), row_far hI.2.2.1 _ (by have := HN.out; have := HN3.out; omega), row_far hI.2.2.2.1 _ (by have := HN.out; omega), hs, HFAR.out.stay hI.2.2.2.2.2 (by have := HN.out; omega) (by have := HN.out; have := HN3.out; omega) _⟩
            simp only [puts, Act.put, List.setIfInBounds_toArray, List.set_cons_succ, List.set_cons_zero, List.set_nil] at hk
            rw [if_pos (show Region.wanted _ _ = true from rfl)]
            refine wp_store_row _ _ _ rfl y2 ([.bool false, .string fn] : List Value).toArray rfl rfl _ _ hr2 (by kernel_rfl) rfl (all_oneCell_toArray (by simp [Value.oneCell'])) ?_
            simp only [puts, Act.put, List.setIfInBounds_toArray, List.set_cons_succ, List.set_cons_zero, List.set_nil]
            exact hk
          · obtain rfl := HF.out.got (HD.out 2 (by decide)) (i := 2) rfl rfl
            have hk := HK.out _ wq  (HF.out.put (i := 5) (v := (.slice ua qT.length uc)) rfl) hI
            simp only [puts, Act.put, List.setIfInBounds_toArray, List.set_cons_succ, List.set_cons_zero, List.set_nil] at hk
            go_simp
            exact hk
        · rintro S us wq hS ⟨hF, hI⟩
          obtain ⟨u0, u1, u2, u3, u4, u5, rfl⟩ := len6 hF.len rfl
          obtain rfl := hF.got (hS 0 (by decide)) (i := 0) rfl rfl
          obtain rfl := hF.got (hS 1 (by decide)) (i := 1) rfl rfl
          obtain rfl := hF.got (hS 2 (by decide)) (i := 2) rfl rfl
          obtain rfl := hF.got (hS 3 (by decide)) (i := 3) rfl rfl
          obtain rfl := hF.got (hS 4 (by decide)) (i := 4) rfl rfl
          obtain rfl := hF.got (hS 5 (by decide)) (i := 5) rfl rfl
          have HS := Lib.hid hS
          clear hF hS
          simp only [puts, Act.put, List.setIfInBounds_toArray, List.set_cons_succ, List.set_cons_zero, List.set_nil]
          obtain ⟨hX, _, _, h1, h2, hq⟩ := hI
          rw [if_pos (HS.out 3 (by decide))] at h1
          rw [if_pos (HS.out 4 (by decide))] at h2
          have HXE := Lib.hid hX
          have HQE := Lib.hid hq
          have HR1 := Lib.hid h1
          have HR2 := Lib.hid h2
          clear hX h1 h2 hq HS
          go_wp2_with fail
          refine bodyPost_ret (results_cc1 rfl rfl HR1.out Try.underlying70 rfl (by kernel_rfl) rfl HR2.out Try.underlying62 rfl (by kernel_rfl)) rfl ⟨_, rfl, ?_, HXE.out⟩
          exact ⟨HQE.out, HFS.out⟩
end Go.Proofs.Ytngnplghjaojhaa
