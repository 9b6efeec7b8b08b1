/- The document's state: an atom: the walk. -/
import Derived.Test.YtngnplghjaojhaaGp30
namespace Go.Proofs.Ytngnplghjaojhaa
set_option maxRecDepth 100000
set_option maxHeartbeats 2000000
set_option linter.unusedSimpArgs false
open Go.RowKit Go.Shelf Go.Sort
attribute [local go_sem] Oper.semAt_some wide_fn wide_depth
set_option linter.unusedVariables false
set_option maxRecDepth 100000 in
set_option maxHeartbeats 20000000 in
theorem anAtomQ {w : World} {ts : List Tk} {a : Option Addr} {k p : Nat} (h : TkQ w ts a k) (hp : p ≤ ts.length) (c : Sc) (A : List Atm) (B : Nat) (hA : w.ownsRow B 64 7 (.slice c.a1 c.n1 c.k1) A.length (A.flatMap atCells)) (hB : B ≤ w.heap.size) (hAl : A.length ≤ 1000) (hvl : (varsS A).length ≤ 10000) :
    Calls Try.prog 59 #[.agg (stL c (.slice a ts.length k) p false).toArray] w fun e w' => ∃ b1 b2 b3,
      e = .returned (.agg (stL { c with a1 := b1, n1 := b2, k1 := b3 } (.slice a ts.length k) (anAtomF ts A p).1 (anAtomF ts A p).2.1).toArray) ∧ w'.ownsRow B 64 7 (.slice b1 b2 b3) (anAtomF ts A p).2.2.length ((anAtomF ts A p).2.2.flatMap atCells) ∧ Ext w w' := by
  have hmo : Try.prog.follows .mixedOrders = true := by kernel_rfl
  obtain ⟨⟨q, qb, qA⟩, hR⟩ : ∃ R, anAtomF ts A p = R := ⟨_, rfl⟩
  rw [hR]
  dsimp only
  have HF := Lib.hid hR
  have HTQ := Lib.hid h
  have HPP := Lib.hid hp
  have HO := Lib.hid hA
  have HBB := Lib.hid hB
  have HAL := Lib.hid hAl
  have HVL := Lib.hid hvl
  have HVS := Lib.hid (fun w' (hx : Ext w w') => varsS_frs _ A w' (Sl.of_own (own_ext hA hx)) (by omega))
  clear h hp hR hA hB hAl hvl
  -- a function over a state: colander/colanderref16.anAtom its name, c the state's cells c, p place, false bad
  -- a function with two boxes at its head: colander/colanderref16.anAtom its name, stL c (.slice a ts.length k) p false [.slice none 0 0, .int .i64 0, .bool false, .slice none 0 0, .slice none 0 0, .bool false, .bool false, .bool false, .int .i64 0, .int .i64 0, .slice none 0 0, .int .i64 0] their cells (lists), colanderref16.State colanderref16.State their types' names
  have hbx := boxes2 w (stL c (.slice a ts.length k) p false) 70 ([.slice none 0 0, .int .i64 0, .bool false, .slice none 0 0, .slice none 0 0, .bool false, .bool false, .bool false, .int .i64 0, .int .i64 0, .slice none 0 0, .int .i64 0]) 70
  have HBX := Lib.hid hbx
  clear hbx
  go_enter Try.func59, Try.ntmps59
  go_upto_region 1 with fail
  generalize (w.alloc (.cells (stL c (.slice a ts.length k) p false).toArray 70)).alloc (.cells ([.slice none 0 0, .int .i64 0, .bool false, .slice none 0 0, .slice none 0 0, .bool false, .bool false, .bool false, .int .i64 0, .int .i64 0, .slice none 0 0, .int .i64 0]).toArray 70) = w1 at *
  obtain ⟨y0, hy0⟩ : ∃ x, w.heap.size = x := ⟨_, rfl⟩
  obtain ⟨y1, hy1⟩ : ∃ x, y0 + 1 = x := ⟨_, rfl⟩
  rw [hy0, hy1] at HBX
  simp only [hy0, hy1]
  have HN := Lib.hid (show w.heap.size = y0 ∧ y0 + 1 = y1 from ⟨hy0, hy1⟩)
  have HX := Lib.hid HBX.out.1
  have H0 := Lib.hid HBX.out.2.1
  have H1 := Lib.hid HBX.out.2.2
  clear hy0 hy1 HBX
  go_upto_region 2 with fail
  have hxa := Ext.alloc w1 (.cells #[.int .i64 1, .bool false, .string ⟨#[]⟩, .string ⟨#[]⟩, .string ⟨#[]⟩, .bool false, .string ⟨#[]⟩] 64)
  have H2 := Lib.hid (RowAt.new w1 64 [.int .i64 1, .bool false, .string ⟨#[]⟩, .string ⟨#[]⟩, .string ⟨#[]⟩, .bool false, .string ⟨#[]⟩])
  have hn2 := H1.out.lt
  generalize w1.alloc (.cells #[.int .i64 1, .bool false, .string ⟨#[]⟩, .string ⟨#[]⟩, .string ⟨#[]⟩, .bool false, .string ⟨#[]⟩] 64) = w2 at *
  obtain ⟨y2, hy2⟩ : ∃ y, w1.heap.size = y := ⟨_, rfl⟩
  rw [hy2] at H2 hn2
  simp only [hy2]
  clear hy2
  replace HN := Lib.hid (show w.heap.size = y0 ∧ y0 + 1 = y1 ∧ y1 < y2 from ⟨HN.out.1, HN.out.2, hn2⟩)
  clear hn2
  -- memory has been made
  replace HX := Lib.hid (HX.out.trans hxa)
  replace H0 := Lib.hid (H0.out.ext hxa)
  replace H1 := Lib.hid (H1.out.ext hxa)
  try replace H2 := Lib.hid (H2.out.ext hxa)
  try replace H3 := Lib.hid (H3.out.ext hxa)
  try replace HS4 := Lib.hid (Strs.ext HS4.out hxa)
  try replace HOA := Lib.hid (own_ext HOA.out hxa)
  try replace HOR := Lib.hid (own_ext HOR.out hxa)
  try replace HOH := Lib.hid (own_ext HOH.out hxa)
  clear hxa
  have HY2 := Lib.hid (show y2 < w2.heap.size from H2.out.lt)
  have d3 := H0.out.cell (i := 3) rfl
  have HVS2 := Lib.hid (HVS.out w2 HX.out)
  go_wp2_with fail
  refine HVS2.out.mono ?_
  rintro e w3 ⟨vv, rfl, hvv, hx3⟩
  have HXS := Lib.hid (show w2.heap.size ≤ w3.heap.size from hx3.size)
  -- memory has been made
  replace HX := Lib.hid (HX.out.trans hx3)
  replace H0 := Lib.hid (H0.out.ext hx3)
  replace H1 := Lib.hid (H1.out.ext hx3)
  try replace H2 := Lib.hid (H2.out.ext hx3)
  try replace H3 := Lib.hid (H3.out.ext hx3)
  try replace HS4 := Lib.hid (Strs.ext HS4.out hx3)
  try replace HOA := Lib.hid (own_ext HOA.out hx3)
  try replace HOR := Lib.hid (own_ext HOR.out hx3)
  try replace HOH := Lib.hid (own_ext HOH.out hx3)
  clear hx3
  clear d3 HVS HVS2
  have hat := aTermQ (HTQ.out.ext HX.out) HPP.out c false vv (varsS A) (y2 + 1) hvv.1 (hvv.2.low (show y2 + 1 ≤ w2.heap.size from HY2.out)) (by have := HXS.out; have := HY2.out; omega) (by have := HVL.out; omega)
  obtain ⟨⟨p1, b1, ⟨fk, fn⟩, T1⟩, hat1⟩ : ∃ r, aTermF ts (varsS A) p false = r := ⟨_, rfl⟩
  rw [hat1] at hat
  dsimp only at hat
  have HAT := Lib.hid hat
  have HA1 := Lib.hid hat1
  have HP1 := Lib.hid (show p1 ≤ ts.length by have h := aTermF_le (T := varsS A) HPP.out false; rw [hat1] at h; exact h)
  have HL1 := Lib.hid (show T1.length ≤ 20000 by have h := aTermF_len (ts := ts) (T := varsS A) (p := p) false; rw [hat1] at h; have := HVL.out; dsimp only at h; omega)
  clear hat hat1 hvv
  go_upto_region 3 with fail
  go_cut [4] (fun s4 wx => AtW w ts a k c y0 y1 y2 p1 b1 [.int .i64 1, .bool fk, .string fn, .string ⟨#[]⟩, .string ⟨#[]⟩, .bool false, .string ⟨#[]⟩] wx ∧ Strs wx s4 T1 ∧ Fresh (y2 + 1) s4 T1)
  case first =>
    apply wp_region_lit
    -- a load of a whole row: y0 block, H0.out fact RowAt, colanderref16.State the type's name
    refine plain_load rfl _ _ rfl y0 rfl _ _ (H0.out) Try.underlying70 rfl (by kernel_rfl) ?_
    go_simp
    refine wpList_plain rfl fun K1 hK1 => ?_
    go_simp
    refine hK1 _ _ ?_
    clear hK1 K1
    -- a call in a plain region: refine HAT.out.mono ?_; rintro e wt ⟨u4, rfl, hu4, hxt⟩ the contract taken, and its results named
    refine wpList_plain rfl fun K1 hK1 => ?_
    go_simp
    refine HAT.out.mono ?_; rintro e wt ⟨u4, rfl, hu4, hxt⟩
    go_simp
    refine hK1 _ _ ?_
    clear hK1 K1
    -- memory has been made
    replace HX := Lib.hid (HX.out.trans hxt)
    replace H0 := Lib.hid (H0.out.ext hxt)
    replace H1 := Lib.hid (H1.out.ext hxt)
    try replace H2 := Lib.hid (H2.out.ext hxt)
    try replace H3 := Lib.hid (H3.out.ext hxt)
    try replace HS4 := Lib.hid (Strs.ext HS4.out hxt)
    try replace HOA := Lib.hid (own_ext HOA.out hxt)
    try replace HOR := Lib.hid (own_ext HOR.out hxt)
    try replace HOH := Lib.hid (own_ext HOH.out hxt)
    clear hxt
    refine wpList_plain rfl fun K1 hK1 => ?_
    go_simp
    refine hK1 _ _ ?_
    clear hK1 K1
    refine wpList_plain rfl fun K1 hK1 => ?_
    go_simp
    refine hK1 _ _ ?_
    clear hK1 K1
    refine wpList_plain rfl fun K1 hK1 => ?_
    go_simp
    refine hK1 _ _ ?_
    clear hK1 K1
    refine wpList_plain rfl fun K1 hK1 => ?_
    go_simp
    refine hK1 _ _ ?_
    clear hK1 K1
    have HU4 := Lib.hid hu4
    clear hu4 HAT
    obtain ⟨wo, hwo⟩ : ∃ z, wt = z := ⟨_, rfl⟩
    rw [hwo] at HX H0 H1 H2 HU4 ⊢
    clear hwo
    replace HU4 := Lib.hid (show Strs (wo.setRow y0 (stL c (.slice a ts.length k) p1 b1).toArray) u4 T1 ∧ Fresh (y2 + 1) u4 T1 from ⟨HU4.out.2.stay HU4.out.1 (by have := HN.out; omega) _, HU4.out.2⟩)
    -- a state's row is put into box y0: c cells, p1 place, b1 bad, wo world, w5 world behind
    refine plain_store rfl _ _ _ rfl y0 (stL c (.slice a ts.length k) p1 b1) rfl rfl (H0.out) (by kernel_rfl) rfl (stL_one c _ _ _ _ _) ?_
    go_simp
    replace HX := Lib.hid (show Ext w (wo.setRow y0 (stL c (.slice a ts.length k) p1 b1).toArray) from below_setRow HX.out (by have := HN.out; omega) _)
    replace H1 := Lib.hid (row_far H1.out (stL c (.slice a ts.length k) p1 b1).toArray (show y1 ≠ y0 by have := HN.out; omega))
    try replace HOA := Lib.hid (own_turn HOA.out H0.out (by decide) (setRow_grown wo y0 (stL c (.slice a ts.length k) p1 b1).toArray))
    try replace HOR := Lib.hid (own_turn HOR.out H0.out (by decide) (setRow_grown wo y0 (stL c (.slice a ts.length k) p1 b1).toArray))
    try replace HOH := Lib.hid (own_turn HOH.out H0.out (by decide) (setRow_grown wo y0 (stL c (.slice a ts.length k) p1 b1).toArray))
    replace H0 := Lib.hid (H0.out.setRow (stL c (.slice a ts.length k) p1 b1))
    try replace H2 := Lib.hid (row_far H2.out (stL c (.slice a ts.length k) p1 b1).toArray (show y2 ≠ y0 by have := HN.out; omega))
    try replace HS4 := Lib.hid (HF4.out.stay HS4.out (y := y0) (by have := HN.out; omega) (stL c (.slice a ts.length k) p1 b1).toArray)
    generalize wo.setRow y0 (stL c (.slice a ts.length k) p1 b1).toArray = w5 at *
    refine wpList_plain rfl fun K1 hK1 => ?_
    go_simp
    refine hK1 _ _ ?_
    clear hK1 K1
    have q1 := H2.out.frozen 1
    have q2 := H2.out.frozen 2
    have e1 := H2.out.cell (i := 1) rfl
    have e2 := H2.out.cell (i := 2) rfl
    refine wpList_plain rfl fun K1 hK1 => ?_
    go_simp
    refine hK1 _ _ ?_
    clear hK1 K1
    have hw := Lib.hid (atw_set (atw_set (AtW.mk HX.out H0.out H1.out H2.out) HN.out 1 (.bool fk)) HN.out 2 (.string fn))
    have hs := Lib.hid (show Strs ((w5.setCell ⟨y2, 1, none⟩ (.bool fk)).setCell ⟨y2, 2, none⟩ (.string fn)) u4 T1 from HU4.out.2.stayC (HU4.out.2.stayC HU4.out.1 (by omega) 1 _) (by omega) 2 _)
    clear q1 q2 e1 e2
    refine wpList_plain rfl fun K1 hK1 => ?_
    go_simp
    refine hK1 _ _ ?_
    clear hK1 K1
    apply wpList_nil
    go_wp2_with fail
    go_meet
    exact ⟨hw.out, hs.out, HU4.out.2⟩
  case rest =>
    obtain ⟨hw4, hs4, hf4⟩ := hcut
    clear HAT
    -- anAtom: the facts of a cut's world are laid anew: hw4 the fact AtW, w6 world's name
    obtain ⟨w6, rfl⟩ : ∃ z, z = wc := ⟨_, rfl⟩
    clear HX H0 H1 H2
    have HX := Lib.hid (hw4).ext
    have H0 := Lib.hid (hw4).r0
    have H1 := Lib.hid (hw4).r1
    have H2 := Lib.hid (hw4).r2
    clear hw4
    have HS4 := Lib.hid hs4
    have HF4 := Lib.hid hf4
    clear hs4 hf4
    obtain ⟨C7, hC7⟩ : ∃ b, (!b1 && decide (kindAt ts p1 = 7)) = b := ⟨_, rfl⟩
    have HC7 := Lib.hid hC7
    clear hC7
    go_upto_region 4 with fail
    go_cut [25] (fun s25 wx => s25 = .bool C7 ∧ Ext w6 wx)
    case first =>
      -- the test of a region '!s.Bad && kind(s) == K': HC7 the fact on its value, p1 place, b1 bad, HP1.out place within
      cases b1 with
      | true =>
        have hc := HC7.out
        rw [Bool.not_true, Bool.false_and] at hc
        subst hc
        have d2 := H0.out.cell (i := 2) rfl
        go_wp2_with fail
        go_meet
        exact ⟨rfl, Ext.refl _⟩
      | false =>
        have hc := HC7.out
        rw [Bool.not_false, Bool.true_and] at hc
        subst hc
        have HKQ := Lib.hid (kindQ (HTQ.out.ext HX.out) (HP1.out) c false)
        obtain ⟨f0, f1, f2, f3, f4, f5, f6, f7, f8, f9, f10, f11⟩ := stQ_facts H0.out
        go_wp2_with fail
        refine HKQ.out.mono ?_
        rintro e wk ⟨rfl, hxk⟩
        have HXK := Lib.hid hxk
        clear f0 f1 f2 f3 f4 f5 f6 f7 f8 f9 f10 f11
        clear hxk
        go_wp2_with fail
        go_meet
        exact ⟨congrArg Value.bool (by first | rfl | simp), HXK.out⟩
    case rest =>
      obtain ⟨rfl, hxc⟩ := hcut
      obtain ⟨w7, rfl⟩ : ∃ z, z = wc := ⟨_, rfl⟩
      -- memory has been made
      replace HX := Lib.hid (HX.out.trans hxc)
      replace H0 := Lib.hid (H0.out.ext hxc)
      replace H1 := Lib.hid (H1.out.ext hxc)
      try replace H2 := Lib.hid (H2.out.ext hxc)
      try replace H3 := Lib.hid (H3.out.ext hxc)
      try replace HS4 := Lib.hid (Strs.ext HS4.out hxc)
      try replace HOA := Lib.hid (own_ext HOA.out hxc)
      try replace HOR := Lib.hid (own_ext HOR.out hxc)
      try replace HOH := Lib.hid (own_ext HOH.out hxc)
      clear hxc
      obtain ⟨⟨p2, b2, k2, nm, vl⟩, hm⟩ : ∃ r, midF ts p1 b1 = r := ⟨_, rfl⟩
      have HM := Lib.hid hm
      have HP2 := Lib.hid (show p2 ≤ ts.length by have h := midF_le HP1.out b1; rw [hm] at h; exact h)
      clear hm
      go_upto_if 25 with fail
      go_cut [25] (fun s25 wx => AtW w ts a k c y0 y1 y2 p2 b2 [.int .i64 k2, .bool fk, .string fn, .string nm, .string vl, .bool false, .string ⟨#[]⟩] wx ∧ Strs wx u4 T1)
      case first =>
        have hm := HM.out
        unfold midF takeM at hm
        cases C7 with
        | true =>
          have hb : b1 = false ∧ kindAt ts p1 = 7 := by have h := HC7.out; simpa using h
          rw [if_pos hb] at hm
          clear hb
          -- the kind of the atom is written: 5 region, 2 kind, [.int .i64 2, .bool fk, .string fn, .string ⟨#[]⟩, .string ⟨#[]⟩, .bool false, .string ⟨#[]⟩] cells, w7 world, w8 behind, p1 place, b1 bad
          go_upto_region 5 with fail
          apply wp_region_lit
          -- in a plain region: a cell of the atom's box is written (two operations): 0 its place, (.int .i64 2) the value, [.int .i64 2, .bool fk, .string fn, .string ⟨#[]⟩, .string ⟨#[]⟩, .bool false, .string ⟨#[]⟩] the atom's cells behind, w7 world, w8 world behind, p1 place, b1 bad
          have q1 := H2.out.frozen 0
          have e1 := H2.out.cell (i := 0) rfl
          refine wpList_plain rfl fun K1 hK1 => ?_
          go_simp
          refine hK1 _ _ ?_
          clear hK1 K1
          refine wpList_plain rfl fun K1 hK1 => ?_
          go_simp
          refine hK1 _ _ ?_
          clear hK1 K1
          have hw := atw_set (AtW.mk HX.out H0.out H1.out H2.out) HN.out 0 ((.int .i64 2))
          try replace HS4 := Lib.hid (HF4.out.stayC HS4.out (y := y2) (by omega) 0 ((.int .i64 2)))
          clear q1 e1 HX H0 H1 H2
          generalize w7.setCell ⟨y2, 0, none⟩ ((.int .i64 2)) = w8 at *
          have HX := Lib.hid (show Ext w w8 from hw.ext)
          have H0 := Lib.hid (show RowAt w8 y0 70 (stL c (.slice a ts.length k) p1 b1) from hw.r0)
          have H1 := Lib.hid (show RowAt w8 y1 70 [.slice none 0 0, .int .i64 0, .bool false, .slice none 0 0, .slice none 0 0, .bool false, .bool false, .bool false, .int .i64 0, .int .i64 0, .slice none 0 0, .int .i64 0] from hw.r1)
          have H2 := Lib.hid (show RowAt w8 y2 64 [.int .i64 2, .bool fk, .string fn, .string ⟨#[]⟩, .string ⟨#[]⟩, .bool false, .string ⟨#[]⟩] from hw.r2)
          clear hw
          apply wpList_nil
          -- a token is taken: 6 region, p1 place, b1 bad, 7 kind, HP1.out place within, p3 b3 x3 results, w9 world behind
          go_upto_region 6 with fail
          -- the document's state in box y0 is handed to take, and what comes is put back (the region's operations up to the store): c the state's cells c, p1 place, b1 bad, 7 kind, HP1.out place within, p3 new place, b3 new bad, x3 the text, w9 world behind. Facts: HTQ, HX, H0, H1, HN
          have htk := takeQ (HTQ.out.ext HX.out) (HP1.out) c b1 7 (by decide)
          obtain ⟨⟨p3, b3, x3⟩, hr⟩ : ∃ r, takeR ts 7 p1 b1 = r := ⟨_, rfl⟩
          rw [hr] at htk
          dsimp only at htk
          have HTK := Lib.hid htk
          have HRp3 := Lib.hid hr
          have HPp3 := Lib.hid (show p3 ≤ ts.length by have h := takeR_le (ts := ts) (HP1.out) (q := 7) (by decide) b1; rw [hr] at h; exact h)
          clear htk hr
          apply wp_region_lit
          -- a load of a whole row: y0 block, H0.out fact RowAt, colanderref16.State the type's name
          refine plain_load rfl _ _ rfl y0 rfl _ _ (H0.out) Try.underlying70 rfl (by kernel_rfl) ?_
          go_simp
          -- a call in a plain region: refine HTK.out.mono ?_; rintro e wt ⟨rfl, hxt⟩ the contract taken, and its results named
          refine wpList_plain rfl fun K1 hK1 => ?_
          go_simp
          refine HTK.out.mono ?_; rintro e wt ⟨rfl, hxt⟩
          go_simp
          refine hK1 _ _ ?_
          clear hK1 K1
          -- memory has been made
          replace HX := Lib.hid (HX.out.trans hxt)
          replace H0 := Lib.hid (H0.out.ext hxt)
          replace H1 := Lib.hid (H1.out.ext hxt)
          try replace H2 := Lib.hid (H2.out.ext hxt)
          try replace H3 := Lib.hid (H3.out.ext hxt)
          try replace HS4 := Lib.hid (Strs.ext HS4.out hxt)
          try replace HOA := Lib.hid (own_ext HOA.out hxt)
          try replace HOR := Lib.hid (own_ext HOR.out hxt)
          try replace HOH := Lib.hid (own_ext HOH.out hxt)
          clear hxt
          refine wpList_plain rfl fun K1 hK1 => ?_
          go_simp
          refine hK1 _ _ ?_
          clear hK1 K1
          refine wpList_plain rfl fun K1 hK1 => ?_
          go_simp
          refine hK1 _ _ ?_
          clear hK1 K1
          refine wpList_plain rfl fun K1 hK1 => ?_
          go_simp
          refine hK1 _ _ ?_
          clear hK1 K1
          -- a state's row is put into box y0: (c) cells, p3 place, b3 bad, wt world, w9 world behind
          refine plain_store rfl _ _ _ rfl y0 (stL (c) (.slice a ts.length k) p3 b3) rfl rfl (H0.out) (by kernel_rfl) rfl (stL_one (c) _ _ _ _ _) ?_
          go_simp
          replace HX := Lib.hid (show Ext w (wt.setRow y0 (stL (c) (.slice a ts.length k) p3 b3).toArray) from below_setRow HX.out (by have := HN.out; omega) _)
          replace H1 := Lib.hid (row_far H1.out (stL (c) (.slice a ts.length k) p3 b3).toArray (show y1 ≠ y0 by have := HN.out; omega))
          try replace HOA := Lib.hid (own_turn HOA.out H0.out (by decide) (setRow_grown wt y0 (stL (c) (.slice a ts.length k) p3 b3).toArray))
          try replace HOR := Lib.hid (own_turn HOR.out H0.out (by decide) (setRow_grown wt y0 (stL (c) (.slice a ts.length k) p3 b3).toArray))
          try replace HOH := Lib.hid (own_turn HOH.out H0.out (by decide) (setRow_grown wt y0 (stL (c) (.slice a ts.length k) p3 b3).toArray))
          replace H0 := Lib.hid (H0.out.setRow (stL (c) (.slice a ts.length k) p3 b3))
          try replace H2 := Lib.hid (row_far H2.out (stL (c) (.slice a ts.length k) p3 b3).toArray (show y2 ≠ y0 by have := HN.out; omega))
          try replace HS4 := Lib.hid (HF4.out.stay HS4.out (y := y0) (by have := HN.out; omega) (stL (c) (.slice a ts.length k) p3 b3).toArray)
          generalize wt.setRow y0 (stL (c) (.slice a ts.length k) p3 b3).toArray = w9 at *
          clear HTK
          apply wpList_nil
          rw [HRp3.out] at hm
          dsimp only at hm
          -- a token is taken: 7 region, p3 place, b3 bad, 1 kind, HPp3.out place within, p4 b4 x4 results, w10 world behind
          go_upto_region 7 with fail
          -- the document's state in box y0 is handed to take, and what comes is put back (the region's operations up to the store): c the state's cells c, p3 place, b3 bad, 1 kind, HPp3.out place within, p4 new place, b4 new bad, x4 the text, w10 world behind. Facts: HTQ, HX, H0, H1, HN
          have htk := takeQ (HTQ.out.ext HX.out) (HPp3.out) c b3 1 (by decide)
          obtain ⟨⟨p4, b4, x4⟩, hr⟩ : ∃ r, takeR ts 1 p3 b3 = r := ⟨_, rfl⟩
          rw [hr] at htk
          dsimp only at htk
          have HTK := Lib.hid htk
          have HRp4 := Lib.hid hr
          have HPp4 := Lib.hid (show p4 ≤ ts.length by have h := takeR_le (ts := ts) (HPp3.out) (q := 1) (by decide) b3; rw [hr] at h; exact h)
          clear htk hr
          apply wp_region_lit
          -- a load of a whole row: y0 block, H0.out fact RowAt, colanderref16.State the type's name
          refine plain_load rfl _ _ rfl y0 rfl _ _ (H0.out) Try.underlying70 rfl (by kernel_rfl) ?_
          go_simp
          -- a call in a plain region: refine HTK.out.mono ?_; rintro e wt ⟨rfl, hxt⟩ the contract taken, and its results named
          refine wpList_plain rfl fun K1 hK1 => ?_
          go_simp
          refine HTK.out.mono ?_; rintro e wt ⟨rfl, hxt⟩
          go_simp
          refine hK1 _ _ ?_
          clear hK1 K1
          -- memory has been made
          replace HX := Lib.hid (HX.out.trans hxt)
          replace H0 := Lib.hid (H0.out.ext hxt)
          replace H1 := Lib.hid (H1.out.ext hxt)
          try replace H2 := Lib.hid (H2.out.ext hxt)
          try replace H3 := Lib.hid (H3.out.ext hxt)
          try replace HS4 := Lib.hid (Strs.ext HS4.out hxt)
          try replace HOA := Lib.hid (own_ext HOA.out hxt)
          try replace HOR := Lib.hid (own_ext HOR.out hxt)
          try replace HOH := Lib.hid (own_ext HOH.out hxt)
          clear hxt
          refine wpList_plain rfl fun K1 hK1 => ?_
          go_simp
          refine hK1 _ _ ?_
          clear hK1 K1
          refine wpList_plain rfl fun K1 hK1 => ?_
          go_simp
          refine hK1 _ _ ?_
          clear hK1 K1
          refine wpList_plain rfl fun K1 hK1 => ?_
          go_simp
          refine hK1 _ _ ?_
          clear hK1 K1
          -- a state's row is put into box y0: (c) cells, p4 place, b4 bad, wt world, w10 world behind
          refine plain_store rfl _ _ _ rfl y0 (stL (c) (.slice a ts.length k) p4 b4) rfl rfl (H0.out) (by kernel_rfl) rfl (stL_one (c) _ _ _ _ _) ?_
          go_simp
          replace HX := Lib.hid (show Ext w (wt.setRow y0 (stL (c) (.slice a ts.length k) p4 b4).toArray) from below_setRow HX.out (by have := HN.out; omega) _)
          replace H1 := Lib.hid (row_far H1.out (stL (c) (.slice a ts.length k) p4 b4).toArray (show y1 ≠ y0 by have := HN.out; omega))
          try replace HOA := Lib.hid (own_turn HOA.out H0.out (by decide) (setRow_grown wt y0 (stL (c) (.slice a ts.length k) p4 b4).toArray))
          try replace HOR := Lib.hid (own_turn HOR.out H0.out (by decide) (setRow_grown wt y0 (stL (c) (.slice a ts.length k) p4 b4).toArray))
          try replace HOH := Lib.hid (own_turn HOH.out H0.out (by decide) (setRow_grown wt y0 (stL (c) (.slice a ts.length k) p4 b4).toArray))
          replace H0 := Lib.hid (H0.out.setRow (stL (c) (.slice a ts.length k) p4 b4))
          try replace H2 := Lib.hid (row_far H2.out (stL (c) (.slice a ts.length k) p4 b4).toArray (show y2 ≠ y0 by have := HN.out; omega))
          try replace HS4 := Lib.hid (HF4.out.stay HS4.out (y := y0) (by have := HN.out; omega) (stL (c) (.slice a ts.length k) p4 b4).toArray)
          generalize wt.setRow y0 (stL (c) (.slice a ts.length k) p4 b4).toArray = w10 at *
          clear HTK
          -- in a plain region: a cell of the atom's box is written (two operations): 3 its place, (.string x4) the value, [.int .i64 2, .bool fk, .string fn, .string x4, .string ⟨#[]⟩, .bool false, .string ⟨#[]⟩] the atom's cells behind, w10 world, w11 world behind, p4 place, b4 bad
          have q1 := H2.out.frozen 3
          have e1 := H2.out.cell (i := 3) rfl
          refine wpList_plain rfl fun K1 hK1 => ?_
          go_simp
          refine hK1 _ _ ?_
          clear hK1 K1
          refine wpList_plain rfl fun K1 hK1 => ?_
          go_simp
          refine hK1 _ _ ?_
          clear hK1 K1
          have hw := atw_set (AtW.mk HX.out H0.out H1.out H2.out) HN.out 3 ((.string x4))
          try replace HS4 := Lib.hid (HF4.out.stayC HS4.out (y := y2) (by omega) 3 ((.string x4)))
          clear q1 e1 HX H0 H1 H2
          generalize w10.setCell ⟨y2, 3, none⟩ ((.string x4)) = w11 at *
          have HX := Lib.hid (show Ext w w11 from hw.ext)
          have H0 := Lib.hid (show RowAt w11 y0 70 (stL c (.slice a ts.length k) p4 b4) from hw.r0)
          have H1 := Lib.hid (show RowAt w11 y1 70 [.slice none 0 0, .int .i64 0, .bool false, .slice none 0 0, .slice none 0 0, .bool false, .bool false, .bool false, .int .i64 0, .int .i64 0, .slice none 0 0, .int .i64 0] from hw.r1)
          have H2 := Lib.hid (show RowAt w11 y2 64 [.int .i64 2, .bool fk, .string fn, .string x4, .string ⟨#[]⟩, .bool false, .string ⟨#[]⟩] from hw.r2)
          clear hw
          apply wpList_nil
          rw [HRp4.out] at hm
          dsimp only at hm
          have HE := Lib.hid hm
          clear hm
          go_wp2_with fail
          go_meet
          have he := HE.out
          cases he
          exact ⟨⟨HX.out, H0.out, H1.out, H2.out⟩, HS4.out⟩
        | false =>
          have hb : ¬ (b1 = false ∧ kindAt ts p1 = 7) := by have h := HC7.out; simpa using h
          rw [if_neg hb] at hm
          clear hb
          have HMM := Lib.hid hm
          clear hm
          obtain ⟨C8, hC8⟩ : ∃ b, (!b1 && decide (kindAt ts p1 = 8)) = b := ⟨_, rfl⟩
          have HC8 := Lib.hid hC8
          clear hC8
          go_upto_region 8 with fail
          go_cut [45] (fun s45 wx => s45 = .bool C8 ∧ Ext w7 wx)
          case first =>
            -- the test of a region '!s.Bad && kind(s) == K': HC8 the fact on its value, p1 place, b1 bad, HP1.out place within
            cases b1 with
            | true =>
              have hc := HC8.out
              rw [Bool.not_true, Bool.false_and] at hc
              subst hc
              have d2 := H0.out.cell (i := 2) rfl
              go_wp2_with fail
              go_meet
              exact ⟨rfl, Ext.refl _⟩
            | false =>
              have hc := HC8.out
              rw [Bool.not_false, Bool.true_and] at hc
              subst hc
              have HKQ := Lib.hid (kindQ (HTQ.out.ext HX.out) (HP1.out) c false)
              obtain ⟨f0, f1, f2, f3, f4, f5, f6, f7, f8, f9, f10, f11⟩ := stQ_facts H0.out
              go_wp2_with fail
              refine HKQ.out.mono ?_
              rintro e wk ⟨rfl, hxk⟩
              have HXK := Lib.hid hxk
              clear f0 f1 f2 f3 f4 f5 f6 f7 f8 f9 f10 f11
              clear hxk
              go_wp2_with fail
              go_meet
              exact ⟨congrArg Value.bool (by first | rfl | simp), HXK.out⟩
          case rest =>
            obtain ⟨rfl, hxc⟩ := hcut
            obtain ⟨w8, rfl⟩ : ∃ z, z = wc := ⟨_, rfl⟩
            -- memory has been made
            replace HX := Lib.hid (HX.out.trans hxc)
            replace H0 := Lib.hid (H0.out.ext hxc)
            replace H1 := Lib.hid (H1.out.ext hxc)
            try replace H2 := Lib.hid (H2.out.ext hxc)
            try replace H3 := Lib.hid (H3.out.ext hxc)
            try replace HS4 := Lib.hid (Strs.ext HS4.out hxc)
            try replace HOA := Lib.hid (own_ext HOA.out hxc)
            try replace HOR := Lib.hid (own_ext HOR.out hxc)
            try replace HOH := Lib.hid (own_ext HOH.out hxc)
            clear hxc
            have hm := HMM.out
            cases C8 with
            | true =>
              have hb : b1 = false ∧ kindAt ts p1 = 8 := by have h := HC8.out; simpa using h
              rw [if_pos hb] at hm
              clear hb
              -- the kind of the atom is written: 9 region, 3 kind, [.int .i64 3, .bool fk, .string fn, .string ⟨#[]⟩, .string ⟨#[]⟩, .bool false, .string ⟨#[]⟩] cells, w8 world, w9 behind, p1 place, b1 bad
              go_upto_region 9 with fail
              apply wp_region_lit
              -- in a plain region: a cell of the atom's box is written (two operations): 0 its place, (.int .i64 3) the value, [.int .i64 3, .bool fk, .string fn, .string ⟨#[]⟩, .string ⟨#[]⟩, .bool false, .string ⟨#[]⟩] the atom's cells behind, w8 world, w9 world behind, p1 place, b1 bad
              have q1 := H2.out.frozen 0
              have e1 := H2.out.cell (i := 0) rfl
              refine wpList_plain rfl fun K1 hK1 => ?_
              go_simp
              refine hK1 _ _ ?_
              clear hK1 K1
              refine wpList_plain rfl fun K1 hK1 => ?_
              go_simp
              refine hK1 _ _ ?_
              clear hK1 K1
              have hw := atw_set (AtW.mk HX.out H0.out H1.out H2.out) HN.out 0 ((.int .i64 3))
              try replace HS4 := Lib.hid (HF4.out.stayC HS4.out (y := y2) (by omega) 0 ((.int .i64 3)))
              clear q1 e1 HX H0 H1 H2
              generalize w8.setCell ⟨y2, 0, none⟩ ((.int .i64 3)) = w9 at *
              have HX := Lib.hid (show Ext w w9 from hw.ext)
              have H0 := Lib.hid (show RowAt w9 y0 70 (stL c (.slice a ts.length k) p1 b1) from hw.r0)
              have H1 := Lib.hid (show RowAt w9 y1 70 [.slice none 0 0, .int .i64 0, .bool false, .slice none 0 0, .slice none 0 0, .bool false, .bool false, .bool false, .int .i64 0, .int .i64 0, .slice none 0 0, .int .i64 0] from hw.r1)
              have H2 := Lib.hid (show RowAt w9 y2 64 [.int .i64 3, .bool fk, .string fn, .string ⟨#[]⟩, .string ⟨#[]⟩, .bool false, .string ⟨#[]⟩] from hw.r2)
              clear hw
              apply wpList_nil
              -- a token is taken: 10 region, p1 place, b1 bad, 8 kind, HP1.out place within, p3 b3 x3 results, w10 world behind
              go_upto_region 10 with fail
              -- the document's state in box y0 is handed to take, and what comes is put back (the region's operations up to the store): c the state's cells c, p1 place, b1 bad, 8 kind, HP1.out place within, p3 new place, b3 new bad, x3 the text, w10 world behind. Facts: HTQ, HX, H0, H1, HN
              have htk := takeQ (HTQ.out.ext HX.out) (HP1.out) c b1 8 (by decide)
              obtain ⟨⟨p3, b3, x3⟩, hr⟩ : ∃ r, takeR ts 8 p1 b1 = r := ⟨_, rfl⟩
              rw [hr] at htk
              dsimp only at htk
              have HTK := Lib.hid htk
              have HRp3 := Lib.hid hr
              have HPp3 := Lib.hid (show p3 ≤ ts.length by have h := takeR_le (ts := ts) (HP1.out) (q := 8) (by decide) b1; rw [hr] at h; exact h)
              clear htk hr
              apply wp_region_lit
              -- a load of a whole row: y0 block, H0.out fact RowAt, colanderref16.State the type's name
              refine plain_load rfl _ _ rfl y0 rfl _ _ (H0.out) Try.underlying70 rfl (by kernel_rfl) ?_
              go_simp
              -- a call in a plain region: refine HTK.out.mono ?_; rintro e wt ⟨rfl, hxt⟩ the contract taken, and its results named
              refine wpList_plain rfl fun K1 hK1 => ?_
              go_simp
              refine HTK.out.mono ?_; rintro e wt ⟨rfl, hxt⟩
              go_simp
              refine hK1 _ _ ?_
              clear hK1 K1
              -- memory has been made
              replace HX := Lib.hid (HX.out.trans hxt)
              replace H0 := Lib.hid (H0.out.ext hxt)
              replace H1 := Lib.hid (H1.out.ext hxt)
              try replace H2 := Lib.hid (H2.out.ext hxt)
              try replace H3 := Lib.hid (H3.out.ext hxt)
              try replace HS4 := Lib.hid (Strs.ext HS4.out hxt)
              try replace HOA := Lib.hid (own_ext HOA.out hxt)
              try replace HOR := Lib.hid (own_ext HOR.out hxt)
              try replace HOH := Lib.hid (own_ext HOH.out hxt)
              clear hxt
              refine wpList_plain rfl fun K1 hK1 => ?_
              go_simp
              refine hK1 _ _ ?_
              clear hK1 K1
              refine wpList_plain rfl fun K1 hK1 => ?_
              go_simp
              refine hK1 _ _ ?_
              clear hK1 K1
              refine wpList_plain rfl fun K1 hK1 => ?_
              go_simp
              refine hK1 _ _ ?_
              clear hK1 K1
              -- a state's row is put into box y0: (c) cells, p3 place, b3 bad, wt world, w10 world behind
              refine plain_store rfl _ _ _ rfl y0 (stL (c) (.slice a ts.length k) p3 b3) rfl rfl (H0.out) (by kernel_rfl) rfl (stL_one (c) _ _ _ _ _) ?_
              go_simp
              replace HX := Lib.hid (show Ext w (wt.setRow y0 (stL (c) (.slice a ts.length k) p3 b3).toArray) from below_setRow HX.out (by have := HN.out; omega) _)
              replace H1 := Lib.hid (row_far H1.out (stL (c) (.slice a ts.length k) p3 b3).toArray (show y1 ≠ y0 by have := HN.out; omega))
              try replace HOA := Lib.hid (own_turn HOA.out H0.out (by decide) (setRow_grown wt y0 (stL (c) (.slice a ts.length k) p3 b3).toArray))
              try replace HOR := Lib.hid (own_turn HOR.out H0.out (by decide) (setRow_grown wt y0 (stL (c) (.slice a ts.length k) p3 b3).toArray))
              try replace HOH := Lib.hid (own_turn HOH.out H0.out (by decide) (setRow_grown wt y0 (stL (c) (.slice a ts.length k) p3 b3).toArray))
              replace H0 := Lib.hid (H0.out.setRow (stL (c) (.slice a ts.length k) p3 b3))
              try replace H2 := Lib.hid (row_far H2.out (stL (c) (.slice a ts.length k) p3 b3).toArray (show y2 ≠ y0 by have := HN.out; omega))
              try replace HS4 := Lib.hid (HF4.out.stay HS4.out (y := y0) (by have := HN.out; omega) (stL (c) (.slice a ts.length k) p3 b3).toArray)
              generalize wt.setRow y0 (stL (c) (.slice a ts.length k) p3 b3).toArray = w10 at *
              clear HTK
              apply wpList_nil
              rw [HRp3.out] at hm
              dsimp only at hm
              -- a token is taken: 11 region, p3 place, b3 bad, 1 kind, HPp3.out place within, p4 b4 x4 results, w11 world behind
              go_upto_region 11 with fail
              -- the document's state in box y0 is handed to take, and what comes is put back (the region's operations up to the store): c the state's cells c, p3 place, b3 bad, 1 kind, HPp3.out place within, p4 new place, b4 new bad, x4 the text, w11 world behind. Facts: HTQ, HX, H0, H1, HN
              have htk := takeQ (HTQ.out.ext HX.out) (HPp3.out) c b3 1 (by decide)
              obtain ⟨⟨p4, b4, x4⟩, hr⟩ : ∃ r, takeR ts 1 p3 b3 = r := ⟨_, rfl⟩
              rw [hr] at htk
              dsimp only at htk
              have HTK := Lib.hid htk
              have HRp4 := Lib.hid hr
              have HPp4 := Lib.hid (show p4 ≤ ts.length by have h := takeR_le (ts := ts) (HPp3.out) (q := 1) (by decide) b3; rw [hr] at h; exact h)
              clear htk hr
              apply wp_region_lit
              -- a load of a whole row: y0 block, H0.out fact RowAt, colanderref16.State the type's name
              refine plain_load rfl _ _ rfl y0 rfl _ _ (H0.out) Try.underlying70 rfl (by kernel_rfl) ?_
              go_simp
              -- a call in a plain region: refine HTK.out.mono ?_; rintro e wt ⟨rfl, hxt⟩ the contract taken, and its results named
              refine wpList_plain rfl fun K1 hK1 => ?_
              go_simp
              refine HTK.out.mono ?_; rintro e wt ⟨rfl, hxt⟩
              go_simp
              refine hK1 _ _ ?_
              clear hK1 K1
              -- memory has been made
              replace HX := Lib.hid (HX.out.trans hxt)
              replace H0 := Lib.hid (H0.out.ext hxt)
              replace H1 := Lib.hid (H1.out.ext hxt)
              try replace H2 := Lib.hid (H2.out.ext hxt)
              try replace H3 := Lib.hid (H3.out.ext hxt)
              try replace HS4 := Lib.hid (Strs.ext HS4.out hxt)
              try replace HOA := Lib.hid (own_ext HOA.out hxt)
              try replace HOR := Lib.hid (own_ext HOR.out hxt)
              try replace HOH := Lib.hid (own_ext HOH.out hxt)
              clear hxt
              refine wpList_plain rfl fun K1 hK1 => ?_
              go_simp
              refine hK1 _ _ ?_
              clear hK1 K1
              refine wpList_plain rfl fun K1 hK1 => ?_
              go_simp
              refine hK1 _ _ ?_
              clear hK1 K1
              refine wpList_plain rfl fun K1 hK1 => ?_
              go_simp
              refine hK1 _ _ ?_
              clear hK1 K1
              -- a state's row is put into box y0: (c) cells, p4 place, b4 bad, wt world, w11 world behind
              refine plain_store rfl _ _ _ rfl y0 (stL (c) (.slice a ts.length k) p4 b4) rfl rfl (H0.out) (by kernel_rfl) rfl (stL_one (c) _ _ _ _ _) ?_
              go_simp
              replace HX := Lib.hid (show Ext w (wt.setRow y0 (stL (c) (.slice a ts.length k) p4 b4).toArray) from below_setRow HX.out (by have := HN.out; omega) _)
              replace H1 := Lib.hid (row_far H1.out (stL (c) (.slice a ts.length k) p4 b4).toArray (show y1 ≠ y0 by have := HN.out; omega))
              try replace HOA := Lib.hid (own_turn HOA.out H0.out (by decide) (setRow_grown wt y0 (stL (c) (.slice a ts.length k) p4 b4).toArray))
              try replace HOR := Lib.hid (own_turn HOR.out H0.out (by decide) (setRow_grown wt y0 (stL (c) (.slice a ts.length k) p4 b4).toArray))
              try replace HOH := Lib.hid (own_turn HOH.out H0.out (by decide) (setRow_grown wt y0 (stL (c) (.slice a ts.length k) p4 b4).toArray))
              replace H0 := Lib.hid (H0.out.setRow (stL (c) (.slice a ts.length k) p4 b4))
              try replace H2 := Lib.hid (row_far H2.out (stL (c) (.slice a ts.length k) p4 b4).toArray (show y2 ≠ y0 by have := HN.out; omega))
              try replace HS4 := Lib.hid (HF4.out.stay HS4.out (y := y0) (by have := HN.out; omega) (stL (c) (.slice a ts.length k) p4 b4).toArray)
              generalize wt.setRow y0 (stL (c) (.slice a ts.length k) p4 b4).toArray = w11 at *
              clear HTK
              -- in a plain region: a cell of the atom's box is written (two operations): 3 its place, (.string x4) the value, [.int .i64 3, .bool fk, .string fn, .string x4, .string ⟨#[]⟩, .bool false, .string ⟨#[]⟩] the atom's cells behind, w11 world, w12 world behind, p4 place, b4 bad
              have q1 := H2.out.frozen 3
              have e1 := H2.out.cell (i := 3) rfl
              refine wpList_plain rfl fun K1 hK1 => ?_
              go_simp
              refine hK1 _ _ ?_
              clear hK1 K1
              refine wpList_plain rfl fun K1 hK1 => ?_
              go_simp
              refine hK1 _ _ ?_
              clear hK1 K1
              have hw := atw_set (AtW.mk HX.out H0.out H1.out H2.out) HN.out 3 ((.string x4))
              try replace HS4 := Lib.hid (HF4.out.stayC HS4.out (y := y2) (by omega) 3 ((.string x4)))
              clear q1 e1 HX H0 H1 H2
              generalize w11.setCell ⟨y2, 3, none⟩ ((.string x4)) = w12 at *
              have HX := Lib.hid (show Ext w w12 from hw.ext)
              have H0 := Lib.hid (show RowAt w12 y0 70 (stL c (.slice a ts.length k) p4 b4) from hw.r0)
              have H1 := Lib.hid (show RowAt w12 y1 70 [.slice none 0 0, .int .i64 0, .bool false, .slice none 0 0, .slice none 0 0, .bool false, .bool false, .bool false, .int .i64 0, .int .i64 0, .slice none 0 0, .int .i64 0] from hw.r1)
              have H2 := Lib.hid (show RowAt w12 y2 64 [.int .i64 3, .bool fk, .string fn, .string x4, .string ⟨#[]⟩, .bool false, .string ⟨#[]⟩] from hw.r2)
              clear hw
              apply wpList_nil
              rw [HRp4.out] at hm
              dsimp only at hm
              -- a token is taken: 12 region, p4 place, b4 bad, 9 kind, HPp4.out place within, p5 b5 x5 results, w13 world behind
              go_upto_region 12 with fail
              -- the document's state in box y0 is handed to take, and what comes is put back (the region's operations up to the store): c the state's cells c, p4 place, b4 bad, 9 kind, HPp4.out place within, p5 new place, b5 new bad, x5 the text, w13 world behind. Facts: HTQ, HX, H0, H1, HN
              have htk := takeQ (HTQ.out.ext HX.out) (HPp4.out) c b4 9 (by decide)
              obtain ⟨⟨p5, b5, x5⟩, hr⟩ : ∃ r, takeR ts 9 p4 b4 = r := ⟨_, rfl⟩
              rw [hr] at htk
              dsimp only at htk
              have HTK := Lib.hid htk
              have HRp5 := Lib.hid hr
              have HPp5 := Lib.hid (show p5 ≤ ts.length by have h := takeR_le (ts := ts) (HPp4.out) (q := 9) (by decide) b4; rw [hr] at h; exact h)
              clear htk hr
              apply wp_region_lit
              -- a load of a whole row: y0 block, H0.out fact RowAt, colanderref16.State the type's name
              refine plain_load rfl _ _ rfl y0 rfl _ _ (H0.out) Try.underlying70 rfl (by kernel_rfl) ?_
              go_simp
              -- a call in a plain region: refine HTK.out.mono ?_; rintro e wt ⟨rfl, hxt⟩ the contract taken, and its results named
              refine wpList_plain rfl fun K1 hK1 => ?_
              go_simp
              refine HTK.out.mono ?_; rintro e wt ⟨rfl, hxt⟩
              go_simp
              refine hK1 _ _ ?_
              clear hK1 K1
              -- memory has been made
              replace HX := Lib.hid (HX.out.trans hxt)
              replace H0 := Lib.hid (H0.out.ext hxt)
              replace H1 := Lib.hid (H1.out.ext hxt)
              try replace H2 := Lib.hid (H2.out.ext hxt)
              try replace H3 := Lib.hid (H3.out.ext hxt)
              try replace HS4 := Lib.hid (Strs.ext HS4.out hxt)
              try replace HOA := Lib.hid (own_ext HOA.out hxt)
              try replace HOR := Lib.hid (own_ext HOR.out hxt)
              try replace HOH := Lib.hid (own_ext HOH.out hxt)
              clear hxt
              refine wpList_plain rfl fun K1 hK1 => ?_
              go_simp
              refine hK1 _ _ ?_
              clear hK1 K1
              refine wpList_plain rfl fun K1 hK1 => ?_
              go_simp
              refine hK1 _ _ ?_
              clear hK1 K1
              refine wpList_plain rfl fun K1 hK1 => ?_
              go_simp
              refine hK1 _ _ ?_
              clear hK1 K1
              -- a state's row is put into box y0: (c) cells, p5 place, b5 bad, wt world, w13 world behind
              refine plain_store rfl _ _ _ rfl y0 (stL (c) (.slice a ts.length k) p5 b5) rfl rfl (H0.out) (by kernel_rfl) rfl (stL_one (c) _ _ _ _ _) ?_
              go_simp
              replace HX := Lib.hid (show Ext w (wt.setRow y0 (stL (c) (.slice a ts.length k) p5 b5).toArray) from below_setRow HX.out (by have := HN.out; omega) _)
              replace H1 := Lib.hid (row_far H1.out (stL (c) (.slice a ts.length k) p5 b5).toArray (show y1 ≠ y0 by have := HN.out; omega))
              try replace HOA := Lib.hid (own_turn HOA.out H0.out (by decide) (setRow_grown wt y0 (stL (c) (.slice a ts.length k) p5 b5).toArray))
              try replace HOR := Lib.hid (own_turn HOR.out H0.out (by decide) (setRow_grown wt y0 (stL (c) (.slice a ts.length k) p5 b5).toArray))
              try replace HOH := Lib.hid (own_turn HOH.out H0.out (by decide) (setRow_grown wt y0 (stL (c) (.slice a ts.length k) p5 b5).toArray))
              replace H0 := Lib.hid (H0.out.setRow (stL (c) (.slice a ts.length k) p5 b5))
              try replace H2 := Lib.hid (row_far H2.out (stL (c) (.slice a ts.length k) p5 b5).toArray (show y2 ≠ y0 by have := HN.out; omega))
              try replace HS4 := Lib.hid (HF4.out.stay HS4.out (y := y0) (by have := HN.out; omega) (stL (c) (.slice a ts.length k) p5 b5).toArray)
              generalize wt.setRow y0 (stL (c) (.slice a ts.length k) p5 b5).toArray = w13 at *
              clear HTK
              apply wpList_nil
              rw [HRp5.out] at hm
              dsimp only at hm
              -- a token is taken: 13 region, p5 place, b5 bad, 3 kind, HPp5.out place within, p6 b6 x6 results, w14 world behind
              go_upto_region 13 with fail
              -- the document's state in box y0 is handed to take, and what comes is put back (the region's operations up to the store): c the state's cells c, p5 place, b5 bad, 3 kind, HPp5.out place within, p6 new place, b6 new bad, x6 the text, w14 world behind. Facts: HTQ, HX, H0, H1, HN
              have htk := takeQ (HTQ.out.ext HX.out) (HPp5.out) c b5 3 (by decide)
              obtain ⟨⟨p6, b6, x6⟩, hr⟩ : ∃ r, takeR ts 3 p5 b5 = r := ⟨_, rfl⟩
              rw [hr] at htk
              dsimp only at htk
              have HTK := Lib.hid htk
              have HRp6 := Lib.hid hr
              have HPp6 := Lib.hid (show p6 ≤ ts.length by have h := takeR_le (ts := ts) (HPp5.out) (q := 3) (by decide) b5; rw [hr] at h; exact h)
              clear htk hr
              apply wp_region_lit
              -- a load of a whole row: y0 block, H0.out fact RowAt, colanderref16.State the type's name
              refine plain_load rfl _ _ rfl y0 rfl _ _ (H0.out) Try.underlying70 rfl (by kernel_rfl) ?_
              go_simp
              -- a call in a plain region: refine HTK.out.mono ?_; rintro e wt ⟨rfl, hxt⟩ the contract taken, and its results named
              refine wpList_plain rfl fun K1 hK1 => ?_
              go_simp
              refine HTK.out.mono ?_; rintro e wt ⟨rfl, hxt⟩
              go_simp
              refine hK1 _ _ ?_
              clear hK1 K1
              -- memory has been made
              replace HX := Lib.hid (HX.out.trans hxt)
              replace H0 := Lib.hid (H0.out.ext hxt)
              replace H1 := Lib.hid (H1.out.ext hxt)
              try replace H2 := Lib.hid (H2.out.ext hxt)
              try replace H3 := Lib.hid (H3.out.ext hxt)
              try replace HS4 := Lib.hid (Strs.ext HS4.out hxt)
              try replace HOA := Lib.hid (own_ext HOA.out hxt)
              try replace HOR := Lib.hid (own_ext HOR.out hxt)
              try replace HOH := Lib.hid (own_ext HOH.out hxt)
              clear hxt
              refine wpList_plain rfl fun K1 hK1 => ?_
              go_simp
              refine hK1 _ _ ?_
              clear hK1 K1
              refine wpList_plain rfl fun K1 hK1 => ?_
              go_simp
              refine hK1 _ _ ?_
              clear hK1 K1
              refine wpList_plain rfl fun K1 hK1 => ?_
              go_simp
              refine hK1 _ _ ?_
              clear hK1 K1
              -- a state's row is put into box y0: (c) cells, p6 place, b6 bad, wt world, w14 world behind
              refine plain_store rfl _ _ _ rfl y0 (stL (c) (.slice a ts.length k) p6 b6) rfl rfl (H0.out) (by kernel_rfl) rfl (stL_one (c) _ _ _ _ _) ?_
              go_simp
              replace HX := Lib.hid (show Ext w (wt.setRow y0 (stL (c) (.slice a ts.length k) p6 b6).toArray) from below_setRow HX.out (by have := HN.out; omega) _)
              replace H1 := Lib.hid (row_far H1.out (stL (c) (.slice a ts.length k) p6 b6).toArray (show y1 ≠ y0 by have := HN.out; omega))
              try replace HOA := Lib.hid (own_turn HOA.out H0.out (by decide) (setRow_grown wt y0 (stL (c) (.slice a ts.length k) p6 b6).toArray))
              try replace HOR := Lib.hid (own_turn HOR.out H0.out (by decide) (setRow_grown wt y0 (stL (c) (.slice a ts.length k) p6 b6).toArray))
              try replace HOH := Lib.hid (own_turn HOH.out H0.out (by decide) (setRow_grown wt y0 (stL (c) (.slice a ts.length k) p6 b6).toArray))
              replace H0 := Lib.hid (H0.out.setRow (stL (c) (.slice a ts.length k) p6 b6))
              try replace H2 := Lib.hid (row_far H2.out (stL (c) (.slice a ts.length k) p6 b6).toArray (show y2 ≠ y0 by have := HN.out; omega))
              try replace HS4 := Lib.hid (HF4.out.stay HS4.out (y := y0) (by have := HN.out; omega) (stL (c) (.slice a ts.length k) p6 b6).toArray)
              generalize wt.setRow y0 (stL (c) (.slice a ts.length k) p6 b6).toArray = w14 at *
              clear HTK
              -- in a plain region: a cell of the atom's box is written (two operations): 4 its place, (.string x6) the value, [.int .i64 3, .bool fk, .string fn, .string x4, .string x6, .bool false, .string ⟨#[]⟩] the atom's cells behind, w14 world, w15 world behind, p6 place, b6 bad
              have q1 := H2.out.frozen 4
              have e1 := H2.out.cell (i := 4) rfl
              refine wpList_plain rfl fun K1 hK1 => ?_
              go_simp
              refine hK1 _ _ ?_
              clear hK1 K1
              refine wpList_plain rfl fun K1 hK1 => ?_
              go_simp
              refine hK1 _ _ ?_
              clear hK1 K1
              have hw := atw_set (AtW.mk HX.out H0.out H1.out H2.out) HN.out 4 ((.string x6))
              try replace HS4 := Lib.hid (HF4.out.stayC HS4.out (y := y2) (by omega) 4 ((.string x6)))
              clear q1 e1 HX H0 H1 H2
              generalize w14.setCell ⟨y2, 4, none⟩ ((.string x6)) = w15 at *
              have HX := Lib.hid (show Ext w w15 from hw.ext)
              have H0 := Lib.hid (show RowAt w15 y0 70 (stL c (.slice a ts.length k) p6 b6) from hw.r0)
              have H1 := Lib.hid (show RowAt w15 y1 70 [.slice none 0 0, .int .i64 0, .bool false, .slice none 0 0, .slice none 0 0, .bool false, .bool false, .bool false, .int .i64 0, .int .i64 0, .slice none 0 0, .int .i64 0] from hw.r1)
              have H2 := Lib.hid (show RowAt w15 y2 64 [.int .i64 3, .bool fk, .string fn, .string x4, .string x6, .bool false, .string ⟨#[]⟩] from hw.r2)
              clear hw
              apply wpList_nil
              rw [HRp6.out] at hm
              dsimp only at hm
              have HE := Lib.hid hm
              clear hm
              go_wp2_with fail
              go_meet
              have he := HE.out
              cases he
              exact ⟨⟨HX.out, H0.out, H1.out, H2.out⟩, HS4.out⟩
            | false =>
              have hb : ¬ (b1 = false ∧ kindAt ts p1 = 8) := by have h := HC8.out; simpa using h
              rw [if_neg hb] at hm
              clear hb
              have HE := Lib.hid hm
              clear hm
              go_wp2_with fail
              go_meet
              have he := HE.out
              cases he
              exact ⟨⟨HX.out, H0.out, H1.out, H2.out⟩, HS4.out⟩
      case rest =>
        obtain ⟨hw5, hs5⟩ := hcut
        -- anAtom: the facts of a cut's world are laid anew: hw5 the fact AtW, w9 world's name
        obtain ⟨w9, rfl⟩ : ∃ z, z = wc := ⟨_, rfl⟩
        clear HX H0 H1 H2
        have HX := Lib.hid (hw5).ext
        have H0 := Lib.hid (hw5).r0
        have H1 := Lib.hid (hw5).r1
        have H2 := Lib.hid (hw5).r2
        clear hw5
        clear HS4
        have HS4 := Lib.hid hs5
        clear hs5
        obtain ⟨⟨p5, b5, x5⟩, h5⟩ : ∃ r, takeR ts 5 p2 b2 = r := ⟨_, rfl⟩
        have HR5 := Lib.hid h5
        have HP5 := Lib.hid (show p5 ≤ ts.length by have h := takeR_le HP2.out (q := 5) (by decide) b2; rw [h5] at h; exact h)
        clear h5
        go_upto_region 14 with fail
        go_cut [72] (fun s72 wx => AtW w ts a k c y0 y1 y2 p5 b5 [.int .i64 k2, .bool fk, .string fn, .string nm, .string vl, .bool false, .string ⟨#[]⟩] wx ∧ Strs wx u4 T1)
        case first =>
          -- the document's state in box y0 is handed to take, and what comes is put back (the region's operations up to the store): c the state's cells c, p2 place, b2 bad, 5 kind, HP2.out place within, p6 new place, b6 new bad, x6 the text, w10 world behind. Facts: HTQ, HX, H0, H1, HN
          have htk := takeQ (HTQ.out.ext HX.out) (HP2.out) c b2 5 (by decide)
          obtain ⟨⟨p6, b6, x6⟩, hr⟩ : ∃ r, takeR ts 5 p2 b2 = r := ⟨_, rfl⟩
          rw [hr] at htk
          dsimp only at htk
          have HTK := Lib.hid htk
          have HRp6 := Lib.hid hr
          have HPp6 := Lib.hid (show p6 ≤ ts.length by have h := takeR_le (ts := ts) (HP2.out) (q := 5) (by decide) b2; rw [hr] at h; exact h)
          clear htk hr
          apply wp_region_lit
          -- a load of a whole row: y0 block, H0.out fact RowAt, colanderref16.State the type's name
          refine plain_load rfl _ _ rfl y0 rfl _ _ (H0.out) Try.underlying70 rfl (by kernel_rfl) ?_
          go_simp
          -- a call in a plain region: refine HTK.out.mono ?_; rintro e wt ⟨rfl, hxt⟩ the contract taken, and its results named
          refine wpList_plain rfl fun K1 hK1 => ?_
          go_simp
          refine HTK.out.mono ?_; rintro e wt ⟨rfl, hxt⟩
          go_simp
          refine hK1 _ _ ?_
          clear hK1 K1
          -- memory has been made
          replace HX := Lib.hid (HX.out.trans hxt)
          replace H0 := Lib.hid (H0.out.ext hxt)
          replace H1 := Lib.hid (H1.out.ext hxt)
          try replace H2 := Lib.hid (H2.out.ext hxt)
          try replace H3 := Lib.hid (H3.out.ext hxt)
          try replace HS4 := Lib.hid (Strs.ext HS4.out hxt)
          try replace HOA := Lib.hid (own_ext HOA.out hxt)
          try replace HOR := Lib.hid (own_ext HOR.out hxt)
          try replace HOH := Lib.hid (own_ext HOH.out hxt)
          clear hxt
          refine wpList_plain rfl fun K1 hK1 => ?_
          go_simp
          refine hK1 _ _ ?_
          clear hK1 K1
          refine wpList_plain rfl fun K1 hK1 => ?_
          go_simp
          refine hK1 _ _ ?_
          clear hK1 K1
          refine wpList_plain rfl fun K1 hK1 => ?_
          go_simp
          refine hK1 _ _ ?_
          clear hK1 K1
          -- a state's row is put into box y0: (c) cells, p6 place, b6 bad, wt world, w10 world behind
          refine plain_store rfl _ _ _ rfl y0 (stL (c) (.slice a ts.length k) p6 b6) rfl rfl (H0.out) (by kernel_rfl) rfl (stL_one (c) _ _ _ _ _) ?_
          go_simp
          replace HX := Lib.hid (show Ext w (wt.setRow y0 (stL (c) (.slice a ts.length k) p6 b6).toArray) from below_setRow HX.out (by have := HN.out; omega) _)
          replace H1 := Lib.hid (row_far H1.out (stL (c) (.slice a ts.length k) p6 b6).toArray (show y1 ≠ y0 by have := HN.out; omega))
          try replace HOA := Lib.hid (own_turn HOA.out H0.out (by decide) (setRow_grown wt y0 (stL (c) (.slice a ts.length k) p6 b6).toArray))
          try replace HOR := Lib.hid (own_turn HOR.out H0.out (by decide) (setRow_grown wt y0 (stL (c) (.slice a ts.length k) p6 b6).toArray))
          try replace HOH := Lib.hid (own_turn HOH.out H0.out (by decide) (setRow_grown wt y0 (stL (c) (.slice a ts.length k) p6 b6).toArray))
          replace H0 := Lib.hid (H0.out.setRow (stL (c) (.slice a ts.length k) p6 b6))
          try replace H2 := Lib.hid (row_far H2.out (stL (c) (.slice a ts.length k) p6 b6).toArray (show y2 ≠ y0 by have := HN.out; omega))
          try replace HS4 := Lib.hid (HF4.out.stay HS4.out (y := y0) (by have := HN.out; omega) (stL (c) (.slice a ts.length k) p6 b6).toArray)
          generalize wt.setRow y0 (stL (c) (.slice a ts.length k) p6 b6).toArray = w10 at *
          clear HTK
          apply wpList_nil
          go_wp2_with fail
          go_meet
          have he := HRp6.out.symm.trans HR5.out
          cases he
          exact ⟨⟨HX.out, H0.out, H1.out, H2.out⟩, HS4.out⟩
        case rest =>
          obtain ⟨hw6, hs6⟩ := hcut
          -- anAtom: the facts of a cut's world are laid anew: hw6 the fact AtW, w10 world's name
          obtain ⟨w10, rfl⟩ : ∃ z, z = wc := ⟨_, rfl⟩
          clear HX H0 H1 H2
          have HX := Lib.hid (hw6).ext
          have H0 := Lib.hid (hw6).r0
          have H1 := Lib.hid (hw6).r1
          have H2 := Lib.hid (hw6).r2
          clear hw6
          clear HS4
          have HS4 := Lib.hid hs6
          clear hs6
          obtain ⟨C10, hC10⟩ : ∃ b, (decide (k2 = 1) && (!b5 && decide (kindAt ts p5 = 10))) = b := ⟨_, rfl⟩
          have HC10 := Lib.hid hC10
          clear hC10
          go_upto_region 15 with fail
          go_cut [86] (fun s86 wx => s86 = .bool C10 ∧ Ext w10 wx)
          case first =>
            have e0 := H2.out.cell (i := 0) rfl
            by_cases hk2 : k2 = 1
            · have hc := HC10.out
              rw [decide_eq_true hk2, Bool.true_and] at hc
              have HCX := Lib.hid hc
              have hq : (k2 == 1) = true := by simpa using hk2
              clear hk2 hc
              -- the test of a region '!s.Bad && kind(s) == K': HCX the fact on its value, p5 place, b5 bad, HP5.out place within
              cases b5 with
              | true =>
                have hc := HCX.out
                rw [Bool.not_true, Bool.false_and] at hc
                subst hc
                have d2 := H0.out.cell (i := 2) rfl
                go_wp2_with fail
                go_meet
                exact ⟨rfl, Ext.refl _⟩
              | false =>
                have hc := HCX.out
                rw [Bool.not_false, Bool.true_and] at hc
                subst hc
                have HKQ := Lib.hid (kindQ (HTQ.out.ext HX.out) (HP5.out) c false)
                obtain ⟨f0, f1, f2, f3, f4, f5, f6, f7, f8, f9, f10, f11⟩ := stQ_facts H0.out
                go_wp2_with fail
                refine HKQ.out.mono ?_
                rintro e wk ⟨rfl, hxk⟩
                have HXK := Lib.hid hxk
                clear f0 f1 f2 f3 f4 f5 f6 f7 f8 f9 f10 f11
                clear hxk
                go_wp2_with fail
                go_meet
                exact ⟨congrArg Value.bool (by first | rfl | simp), HXK.out⟩
            · have hc := HC10.out
              rw [decide_eq_false hk2, Bool.false_and] at hc
              subst hc
              have hq : (k2 == 1) = false := by simpa using hk2
              clear hk2
              go_wp2_with fail
              go_meet
              exact ⟨rfl, Ext.refl _⟩
          case rest =>
            obtain ⟨rfl, hxc⟩ := hcut
            obtain ⟨w11, rfl⟩ : ∃ z, z = wc := ⟨_, rfl⟩
            -- memory has been made
            replace HX := Lib.hid (HX.out.trans hxc)
            replace H0 := Lib.hid (H0.out.ext hxc)
            replace H1 := Lib.hid (H1.out.ext hxc)
            try replace H2 := Lib.hid (H2.out.ext hxc)
            try replace H3 := Lib.hid (H3.out.ext hxc)
            try replace HS4 := Lib.hid (Strs.ext HS4.out hxc)
            try replace HOA := Lib.hid (own_ext HOA.out hxc)
            try replace HOR := Lib.hid (own_ext HOR.out hxc)
            try replace HOH := Lib.hid (own_ext HOH.out hxc)
            clear hxc
            have hf := HF.out
            unfold anAtomF takeM at hf
            dsimp only at hf
            rw [HA1.out] at hf
            dsimp only at hf
            rw [HM.out] at hf
            dsimp only at hf
            rw [HR5.out] at hf
            dsimp only at hf
            cases C10 with
            | true =>
              have hb : k2 = 1 ∧ b5 = false ∧ kindAt ts p5 = 10 := by have h := HC10.out; simpa using h
              rw [if_pos hb] at hf
              have HB3 := Lib.hid hb
              clear hb
              -- the kind of the atom is written: 16 region, 4 kind, [.int .i64 4, .bool fk, .string fn, .string nm, .string vl, .bool false, .string ⟨#[]⟩] cells, w11 world, w12 behind, p5 place, b5 bad
              go_upto_region 16 with fail
              apply wp_region_lit
              -- in a plain region: a cell of the atom's box is written (two operations): 0 its place, (.int .i64 4) the value, [.int .i64 4, .bool fk, .string fn, .string nm, .string vl, .bool false, .string ⟨#[]⟩] the atom's cells behind, w11 world, w12 world behind, p5 place, b5 bad
              have q1 := H2.out.frozen 0
              have e1 := H2.out.cell (i := 0) rfl
              refine wpList_plain rfl fun K1 hK1 => ?_
              go_simp
              refine hK1 _ _ ?_
              clear hK1 K1
              refine wpList_plain rfl fun K1 hK1 => ?_
              go_simp
              refine hK1 _ _ ?_
              clear hK1 K1
              have hw := atw_set (AtW.mk HX.out H0.out H1.out H2.out) HN.out 0 ((.int .i64 4))
              try replace HS4 := Lib.hid (HF4.out.stayC HS4.out (y := y2) (by omega) 0 ((.int .i64 4)))
              clear q1 e1 HX H0 H1 H2
              generalize w11.setCell ⟨y2, 0, none⟩ ((.int .i64 4)) = w12 at *
              have HX := Lib.hid (show Ext w w12 from hw.ext)
              have H0 := Lib.hid (show RowAt w12 y0 70 (stL c (.slice a ts.length k) p5 b5) from hw.r0)
              have H1 := Lib.hid (show RowAt w12 y1 70 [.slice none 0 0, .int .i64 0, .bool false, .slice none 0 0, .slice none 0 0, .bool false, .bool false, .bool false, .int .i64 0, .int .i64 0, .slice none 0 0, .int .i64 0] from hw.r1)
              have H2 := Lib.hid (show RowAt w12 y2 64 [.int .i64 4, .bool fk, .string fn, .string nm, .string vl, .bool false, .string ⟨#[]⟩] from hw.r2)
              clear hw
              apply wpList_nil
              -- a token is taken: 17 region, p5 place, b5 bad, 10 kind, HP5.out place within, p6 b6 x6 results, w13 world behind
              go_upto_region 17 with fail
              -- the document's state in box y0 is handed to take, and what comes is put back (the region's operations up to the store): c the state's cells c, p5 place, b5 bad, 10 kind, HP5.out place within, p6 new place, b6 new bad, x6 the text, w13 world behind. Facts: HTQ, HX, H0, H1, HN
              have htk := takeQ (HTQ.out.ext HX.out) (HP5.out) c b5 10 (by decide)
              obtain ⟨⟨p6, b6, x6⟩, hr⟩ : ∃ r, takeR ts 10 p5 b5 = r := ⟨_, rfl⟩
              rw [hr] at htk
              dsimp only at htk
              have HTK := Lib.hid htk
              have HRp6 := Lib.hid hr
              have HPp6 := Lib.hid (show p6 ≤ ts.length by have h := takeR_le (ts := ts) (HP5.out) (q := 10) (by decide) b5; rw [hr] at h; exact h)
              clear htk hr
              apply wp_region_lit
              -- a load of a whole row: y0 block, H0.out fact RowAt, colanderref16.State the type's name
              refine plain_load rfl _ _ rfl y0 rfl _ _ (H0.out) Try.underlying70 rfl (by kernel_rfl) ?_
              go_simp
              -- a call in a plain region: refine HTK.out.mono ?_; rintro e wt ⟨rfl, hxt⟩ the contract taken, and its results named
              refine wpList_plain rfl fun K1 hK1 => ?_
              go_simp
              refine HTK.out.mono ?_; rintro e wt ⟨rfl, hxt⟩
              go_simp
              refine hK1 _ _ ?_
              clear hK1 K1
              -- memory has been made
              replace HX := Lib.hid (HX.out.trans hxt)
              replace H0 := Lib.hid (H0.out.ext hxt)
              replace H1 := Lib.hid (H1.out.ext hxt)
              try replace H2 := Lib.hid (H2.out.ext hxt)
              try replace H3 := Lib.hid (H3.out.ext hxt)
              try replace HS4 := Lib.hid (Strs.ext HS4.out hxt)
              try replace HOA := Lib.hid (own_ext HOA.out hxt)
              try replace HOR := Lib.hid (own_ext HOR.out hxt)
              try replace HOH := Lib.hid (own_ext HOH.out hxt)
              clear hxt
              refine wpList_plain rfl fun K1 hK1 => ?_
              go_simp
              refine hK1 _ _ ?_
              clear hK1 K1
              refine wpList_plain rfl fun K1 hK1 => ?_
              go_simp
              refine hK1 _ _ ?_
              clear hK1 K1
              refine wpList_plain rfl fun K1 hK1 => ?_
              go_simp
              refine hK1 _ _ ?_
              clear hK1 K1
              -- a state's row is put into box y0: (c) cells, p6 place, b6 bad, wt world, w13 world behind
              refine plain_store rfl _ _ _ rfl y0 (stL (c) (.slice a ts.length k) p6 b6) rfl rfl (H0.out) (by kernel_rfl) rfl (stL_one (c) _ _ _ _ _) ?_
              go_simp
              replace HX := Lib.hid (show Ext w (wt.setRow y0 (stL (c) (.slice a ts.length k) p6 b6).toArray) from below_setRow HX.out (by have := HN.out; omega) _)
              replace H1 := Lib.hid (row_far H1.out (stL (c) (.slice a ts.length k) p6 b6).toArray (show y1 ≠ y0 by have := HN.out; omega))
              try replace HOA := Lib.hid (own_turn HOA.out H0.out (by decide) (setRow_grown wt y0 (stL (c) (.slice a ts.length k) p6 b6).toArray))
              try replace HOR := Lib.hid (own_turn HOR.out H0.out (by decide) (setRow_grown wt y0 (stL (c) (.slice a ts.length k) p6 b6).toArray))
              try replace HOH := Lib.hid (own_turn HOH.out H0.out (by decide) (setRow_grown wt y0 (stL (c) (.slice a ts.length k) p6 b6).toArray))
              replace H0 := Lib.hid (H0.out.setRow (stL (c) (.slice a ts.length k) p6 b6))
              try replace H2 := Lib.hid (row_far H2.out (stL (c) (.slice a ts.length k) p6 b6).toArray (show y2 ≠ y0 by have := HN.out; omega))
              try replace HS4 := Lib.hid (HF4.out.stay HS4.out (y := y0) (by have := HN.out; omega) (stL (c) (.slice a ts.length k) p6 b6).toArray)
              generalize wt.setRow y0 (stL (c) (.slice a ts.length k) p6 b6).toArray = w13 at *
              clear HTK
              apply wpList_nil
              have hg : p6 = p5 + 1 ∧ b6 = false := by
                have h := HRp6.out
                unfold takeR at h
                rw [if_pos ⟨HB3.out.2.1, HB3.out.2.2⟩] at h
                cases h
                exact ⟨rfl, rfl⟩
              obtain ⟨rfl, rfl⟩ := hg
              have d3 := H0.out.cell (i := 3) rfl
              have HED := Lib.hid (edgesS_any _ A w13 (Sl.of_own (own_ext HO.out HX.out)) (by have := HAL.out; omega))
              go_upto_region 18 with fail
              by_cases h6 : edgesOf A = 6
              · rw [if_pos h6] at hf
                rw [h6] at HED
                cases hf
                clear h6
                go_wp2_with fail
                refine HED.out.mono ?_
                rintro e w14 ⟨rfl, hx14⟩
                clear d3 HED
                -- memory has been made
                replace HX := Lib.hid (HX.out.trans hx14)
                replace H0 := Lib.hid (H0.out.ext hx14)
                replace H1 := Lib.hid (H1.out.ext hx14)
                try replace H2 := Lib.hid (H2.out.ext hx14)
                try replace H3 := Lib.hid (H3.out.ext hx14)
                try replace HS4 := Lib.hid (Strs.ext HS4.out hx14)
                try replace HOA := Lib.hid (own_ext HOA.out hx14)
                try replace HOR := Lib.hid (own_ext HOR.out hx14)
                try replace HOH := Lib.hid (own_ext HOH.out hx14)
                clear hx14
                go_upto_region 19 with fail
                have HWR := Lib.hid (wrongQ (p := q) (HTQ.out.ext HX.out) HPp6.out c false)
                apply wp_region_lit
                -- a load of a whole row: y0 block, H0.out fact RowAt, colanderref16.State the type's name
                refine plain_load rfl _ _ rfl y0 rfl _ _ (H0.out) Try.underlying70 rfl (by kernel_rfl) ?_
                go_simp
                -- a call in a plain region: refine HWR.out.mono ?_; rintro e w15 ⟨rfl, hx15⟩ the contract taken, and its results named
                refine wpList_plain rfl fun K1 hK1 => ?_
                go_simp
                refine HWR.out.mono ?_; rintro e w15 ⟨rfl, hx15⟩
                go_simp
                refine hK1 _ _ ?_
                clear hK1 K1
                -- memory has been made
                replace HX := Lib.hid (HX.out.trans hx15)
                replace H0 := Lib.hid (H0.out.ext hx15)
                replace H1 := Lib.hid (H1.out.ext hx15)
                try replace H2 := Lib.hid (H2.out.ext hx15)
                try replace H3 := Lib.hid (H3.out.ext hx15)
                try replace HS4 := Lib.hid (Strs.ext HS4.out hx15)
                try replace HOA := Lib.hid (own_ext HOA.out hx15)
                try replace HOR := Lib.hid (own_ext HOR.out hx15)
                try replace HOH := Lib.hid (own_ext HOH.out hx15)
                clear hx15
                refine plain_store rfl _ _ _ rfl y1 (stL c (.slice a ts.length k) q true) rfl rfl (H1.out) (by kernel_rfl) rfl (stL_one c _ _ _ _ _) ?_
                go_simp
                replace HX := Lib.hid (show Ext w (w15.setRow y1 (stL c (.slice a ts.length k) q true).toArray) from below_setRow HX.out (by have := HN.out; omega) _)
                try replace HOA := Lib.hid (own_turn HOA.out H1.out (by decide) (setRow_grown w15 y1 (stL c (.slice a ts.length k) q true).toArray))
                try replace HOR := Lib.hid (own_turn HOR.out H1.out (by decide) (setRow_grown w15 y1 (stL c (.slice a ts.length k) q true).toArray))
                try replace HOH := Lib.hid (own_turn HOH.out H1.out (by decide) (setRow_grown w15 y1 (stL c (.slice a ts.length k) q true).toArray))
                replace H1 := Lib.hid (H1.out.setRow (stL c (.slice a ts.length k) q true))
                clear H0
                generalize w15.setRow y1 (stL c (.slice a ts.length k) q true).toArray = w16 at *
                apply wpList_nil
                go_wp2_with fail
                exact bodyPost_ret (results_row0 rfl rfl H1.out Try.underlying70 rfl (by kernel_rfl)) rfl ⟨c.a1, c.n1, c.k1, rfl, own_ext HO.out HX.out, HX.out⟩
              · rw [if_neg h6] at hf
                have hq6 : ((edgesOf A : Int) == 6) = false := beq_eq_false_iff_ne.2 (by omega)
                clear h6
                go_wp2_with fail
                refine HED.out.mono ?_
                rintro e w14 ⟨rfl, hx14⟩
                clear d3 HED
                -- memory has been made
                replace HX := Lib.hid (HX.out.trans hx14)
                replace H0 := Lib.hid (H0.out.ext hx14)
                replace H1 := Lib.hid (H1.out.ext hx14)
                try replace H2 := Lib.hid (H2.out.ext hx14)
                try replace H3 := Lib.hid (H3.out.ext hx14)
                try replace HS4 := Lib.hid (Strs.ext HS4.out hx14)
                try replace HOA := Lib.hid (own_ext HOA.out hx14)
                try replace HOR := Lib.hid (own_ext HOR.out hx14)
                try replace HOH := Lib.hid (own_ext HOH.out hx14)
                clear hx14
                -- a token is taken: 20 region, (p5 + 1) place, false bad, 1 kind, HPp6.out place within, p7 b7 x7 results, w15 world behind
                go_upto_region 20 with fail
                -- the document's state in box y0 is handed to take, and what comes is put back (the region's operations up to the store): c the state's cells c, (p5 + 1) place, false bad, 1 kind, HPp6.out place within, p7 new place, b7 new bad, x7 the text, w15 world behind. Facts: HTQ, HX, H0, H1, HN
                have htk := takeQ (HTQ.out.ext HX.out) (HPp6.out) c false 1 (by decide)
                obtain ⟨⟨p7, b7, x7⟩, hr⟩ : ∃ r, takeR ts 1 (p5 + 1) false = r := ⟨_, rfl⟩
                rw [hr] at htk
                dsimp only at htk
                have HTK := Lib.hid htk
                have HRp7 := Lib.hid hr
                have HPp7 := Lib.hid (show p7 ≤ ts.length by have h := takeR_le (ts := ts) (HPp6.out) (q := 1) (by decide) false; rw [hr] at h; exact h)
                clear htk hr
                apply wp_region_lit
                -- a load of a whole row: y0 block, H0.out fact RowAt, colanderref16.State the type's name
                refine plain_load rfl _ _ rfl y0 rfl _ _ (H0.out) Try.underlying70 rfl (by kernel_rfl) ?_
                go_simp
                -- a call in a plain region: refine HTK.out.mono ?_; rintro e wt ⟨rfl, hxt⟩ the contract taken, and its results named
                refine wpList_plain rfl fun K1 hK1 => ?_
                go_simp
                refine HTK.out.mono ?_; rintro e wt ⟨rfl, hxt⟩
                go_simp
                refine hK1 _ _ ?_
                clear hK1 K1
                -- memory has been made
                replace HX := Lib.hid (HX.out.trans hxt)
                replace H0 := Lib.hid (H0.out.ext hxt)
                replace H1 := Lib.hid (H1.out.ext hxt)
                try replace H2 := Lib.hid (H2.out.ext hxt)
                try replace H3 := Lib.hid (H3.out.ext hxt)
                try replace HS4 := Lib.hid (Strs.ext HS4.out hxt)
                try replace HOA := Lib.hid (own_ext HOA.out hxt)
                try replace HOR := Lib.hid (own_ext HOR.out hxt)
                try replace HOH := Lib.hid (own_ext HOH.out hxt)
                clear hxt
                refine wpList_plain rfl fun K1 hK1 => ?_
                go_simp
                refine hK1 _ _ ?_
                clear hK1 K1
                refine wpList_plain rfl fun K1 hK1 => ?_
                go_simp
                refine hK1 _ _ ?_
                clear hK1 K1
                refine wpList_plain rfl fun K1 hK1 => ?_
                go_simp
                refine hK1 _ _ ?_
                clear hK1 K1
                -- a state's row is put into box y0: (c) cells, p7 place, b7 bad, wt world, w15 world behind
                refine plain_store rfl _ _ _ rfl y0 (stL (c) (.slice a ts.length k) p7 b7) rfl rfl (H0.out) (by kernel_rfl) rfl (stL_one (c) _ _ _ _ _) ?_
                go_simp
                replace HX := Lib.hid (show Ext w (wt.setRow y0 (stL (c) (.slice a ts.length k) p7 b7).toArray) from below_setRow HX.out (by have := HN.out; omega) _)
                replace H1 := Lib.hid (row_far H1.out (stL (c) (.slice a ts.length k) p7 b7).toArray (show y1 ≠ y0 by have := HN.out; omega))
                try replace HOA := Lib.hid (own_turn HOA.out H0.out (by decide) (setRow_grown wt y0 (stL (c) (.slice a ts.length k) p7 b7).toArray))
                try replace HOR := Lib.hid (own_turn HOR.out H0.out (by decide) (setRow_grown wt y0 (stL (c) (.slice a ts.length k) p7 b7).toArray))
                try replace HOH := Lib.hid (own_turn HOH.out H0.out (by decide) (setRow_grown wt y0 (stL (c) (.slice a ts.length k) p7 b7).toArray))
                replace H0 := Lib.hid (H0.out.setRow (stL (c) (.slice a ts.length k) p7 b7))
                try replace H2 := Lib.hid (row_far H2.out (stL (c) (.slice a ts.length k) p7 b7).toArray (show y2 ≠ y0 by have := HN.out; omega))
                try replace HS4 := Lib.hid (HF4.out.stay HS4.out (y := y0) (by have := HN.out; omega) (stL (c) (.slice a ts.length k) p7 b7).toArray)
                generalize wt.setRow y0 (stL (c) (.slice a ts.length k) p7 b7).toArray = w15 at *
                clear HTK
                clear hq6
                -- in a plain region: a cell of the atom's box is written (two operations): 3 its place, (.string x7) the value, [.int .i64 4, .bool fk, .string fn, .string x7, .string vl, .bool false, .string ⟨#[]⟩] the atom's cells behind, w15 world, w16 world behind, p7 place, b7 bad
                have q1 := H2.out.frozen 3
                have e1 := H2.out.cell (i := 3) rfl
                refine wpList_plain rfl fun K1 hK1 => ?_
                go_simp
                refine hK1 _ _ ?_
                clear hK1 K1
                refine wpList_plain rfl fun K1 hK1 => ?_
                go_simp
                refine hK1 _ _ ?_
                clear hK1 K1
                have hw := atw_set (AtW.mk HX.out H0.out H1.out H2.out) HN.out 3 ((.string x7))
                try replace HS4 := Lib.hid (HF4.out.stayC HS4.out (y := y2) (by omega) 3 ((.string x7)))
                clear q1 e1 HX H0 H1 H2
                generalize w15.setCell ⟨y2, 3, none⟩ ((.string x7)) = w16 at *
                have HX := Lib.hid (show Ext w w16 from hw.ext)
                have H0 := Lib.hid (show RowAt w16 y0 70 (stL c (.slice a ts.length k) p7 b7) from hw.r0)
                have H1 := Lib.hid (show RowAt w16 y1 70 [.slice none 0 0, .int .i64 0, .bool false, .slice none 0 0, .slice none 0 0, .bool false, .bool false, .bool false, .int .i64 0, .int .i64 0, .slice none 0 0, .int .i64 0] from hw.r1)
                have H2 := Lib.hid (show RowAt w16 y2 64 [.int .i64 4, .bool fk, .string fn, .string x7, .string vl, .bool false, .string ⟨#[]⟩] from hw.r2)
                clear hw
                apply wpList_nil
                -- a token is taken: 21 region, p7 place, b7 bad, 11 kind, HPp7.out place within, p8 b8 x8 results, w17 world behind
                go_upto_region 21 with fail
                -- the document's state in box y0 is handed to take, and what comes is put back (the region's operations up to the store): c the state's cells c, p7 place, b7 bad, 11 kind, HPp7.out place within, p8 new place, b8 new bad, x8 the text, w17 world behind. Facts: HTQ, HX, H0, H1, HN
                have htk := takeQ (HTQ.out.ext HX.out) (HPp7.out) c b7 11 (by decide)
                obtain ⟨⟨p8, b8, x8⟩, hr⟩ : ∃ r, takeR ts 11 p7 b7 = r := ⟨_, rfl⟩
                rw [hr] at htk
                dsimp only at htk
                have HTK := Lib.hid htk
                have HRp8 := Lib.hid hr
                have HPp8 := Lib.hid (show p8 ≤ ts.length by have h := takeR_le (ts := ts) (HPp7.out) (q := 11) (by decide) b7; rw [hr] at h; exact h)
                clear htk hr
                apply wp_region_lit
                -- a load of a whole row: y0 block, H0.out fact RowAt, colanderref16.State the type's name
                refine plain_load rfl _ _ rfl y0 rfl _ _ (H0.out) Try.underlying70 rfl (by kernel_rfl) ?_
                go_simp
                -- a call in a plain region: refine HTK.out.mono ?_; rintro e wt ⟨rfl, hxt⟩ the contract taken, and its results named
                refine wpList_plain rfl fun K1 hK1 => ?_
                go_simp
                refine HTK.out.mono ?_; rintro e wt ⟨rfl, hxt⟩
                go_simp
                refine hK1 _ _ ?_
                clear hK1 K1
                -- memory has been made
                replace HX := Lib.hid (HX.out.trans hxt)
                replace H0 := Lib.hid (H0.out.ext hxt)
                replace H1 := Lib.hid (H1.out.ext hxt)
                try replace H2 := Lib.hid (H2.out.ext hxt)
                try replace H3 := Lib.hid (H3.out.ext hxt)
                try replace HS4 := Lib.hid (Strs.ext HS4.out hxt)
                try replace HOA := Lib.hid (own_ext HOA.out hxt)
                try replace HOR := Lib.hid (own_ext HOR.out hxt)
                try replace HOH := Lib.hid (own_ext HOH.out hxt)
                clear hxt
                refine wpList_plain rfl fun K1 hK1 => ?_
                go_simp
                refine hK1 _ _ ?_
                clear hK1 K1
                refine wpList_plain rfl fun K1 hK1 => ?_
                go_simp
                refine hK1 _ _ ?_
                clear hK1 K1
                refine wpList_plain rfl fun K1 hK1 => ?_
                go_simp
                refine hK1 _ _ ?_
                clear hK1 K1
                -- a state's row is put into box y0: (c) cells, p8 place, b8 bad, wt world, w17 world behind
                refine plain_store rfl _ _ _ rfl y0 (stL (c) (.slice a ts.length k) p8 b8) rfl rfl (H0.out) (by kernel_rfl) rfl (stL_one (c) _ _ _ _ _) ?_
                go_simp
                replace HX := Lib.hid (show Ext w (wt.setRow y0 (stL (c) (.slice a ts.length k) p8 b8).toArray) from below_setRow HX.out (by have := HN.out; omega) _)
                replace H1 := Lib.hid (row_far H1.out (stL (c) (.slice a ts.length k) p8 b8).toArray (show y1 ≠ y0 by have := HN.out; omega))
                try replace HOA := Lib.hid (own_turn HOA.out H0.out (by decide) (setRow_grown wt y0 (stL (c) (.slice a ts.length k) p8 b8).toArray))
                try replace HOR := Lib.hid (own_turn HOR.out H0.out (by decide) (setRow_grown wt y0 (stL (c) (.slice a ts.length k) p8 b8).toArray))
                try replace HOH := Lib.hid (own_turn HOH.out H0.out (by decide) (setRow_grown wt y0 (stL (c) (.slice a ts.length k) p8 b8).toArray))
                replace H0 := Lib.hid (H0.out.setRow (stL (c) (.slice a ts.length k) p8 b8))
                try replace H2 := Lib.hid (row_far H2.out (stL (c) (.slice a ts.length k) p8 b8).toArray (show y2 ≠ y0 by have := HN.out; omega))
                try replace HS4 := Lib.hid (HF4.out.stay HS4.out (y := y0) (by have := HN.out; omega) (stL (c) (.slice a ts.length k) p8 b8).toArray)
                generalize wt.setRow y0 (stL (c) (.slice a ts.length k) p8 b8).toArray = w17 at *
                clear HTK
                apply wpList_nil
                -- a token is taken: 22 region, p8 place, b8 bad, 4 kind, HPp8.out place within, p9 b9 x9 results, w18 world behind
                go_upto_region 22 with fail
                -- the document's state in box y0 is handed to take, and what comes is put back (the region's operations up to the store): c the state's cells c, p8 place, b8 bad, 4 kind, HPp8.out place within, p9 new place, b9 new bad, x9 the text, w18 world behind. Facts: HTQ, HX, H0, H1, HN
                have htk := takeQ (HTQ.out.ext HX.out) (HPp8.out) c b8 4 (by decide)
                obtain ⟨⟨p9, b9, x9⟩, hr⟩ : ∃ r, takeR ts 4 p8 b8 = r := ⟨_, rfl⟩
                rw [hr] at htk
                dsimp only at htk
                have HTK := Lib.hid htk
                have HRp9 := Lib.hid hr
                have HPp9 := Lib.hid (show p9 ≤ ts.length by have h := takeR_le (ts := ts) (HPp8.out) (q := 4) (by decide) b8; rw [hr] at h; exact h)
                clear htk hr
                apply wp_region_lit
                -- a load of a whole row: y0 block, H0.out fact RowAt, colanderref16.State the type's name
                refine plain_load rfl _ _ rfl y0 rfl _ _ (H0.out) Try.underlying70 rfl (by kernel_rfl) ?_
                go_simp
                -- a call in a plain region: refine HTK.out.mono ?_; rintro e wt ⟨rfl, hxt⟩ the contract taken, and its results named
                refine wpList_plain rfl fun K1 hK1 => ?_
                go_simp
                refine HTK.out.mono ?_; rintro e wt ⟨rfl, hxt⟩
                go_simp
                refine hK1 _ _ ?_
                clear hK1 K1
                -- memory has been made
                replace HX := Lib.hid (HX.out.trans hxt)
                replace H0 := Lib.hid (H0.out.ext hxt)
                replace H1 := Lib.hid (H1.out.ext hxt)
                try replace H2 := Lib.hid (H2.out.ext hxt)
                try replace H3 := Lib.hid (H3.out.ext hxt)
                try replace HS4 := Lib.hid (Strs.ext HS4.out hxt)
                try replace HOA := Lib.hid (own_ext HOA.out hxt)
                try replace HOR := Lib.hid (own_ext HOR.out hxt)
                try replace HOH := Lib.hid (own_ext HOH.out hxt)
                clear hxt
                refine wpList_plain rfl fun K1 hK1 => ?_
                go_simp
                refine hK1 _ _ ?_
                clear hK1 K1
                refine wpList_plain rfl fun K1 hK1 => ?_
                go_simp
                refine hK1 _ _ ?_
                clear hK1 K1
                refine wpList_plain rfl fun K1 hK1 => ?_
                go_simp
                refine hK1 _ _ ?_
                clear hK1 K1
                -- a state's row is put into box y0: (c) cells, p9 place, b9 bad, wt world, w18 world behind
                refine plain_store rfl _ _ _ rfl y0 (stL (c) (.slice a ts.length k) p9 b9) rfl rfl (H0.out) (by kernel_rfl) rfl (stL_one (c) _ _ _ _ _) ?_
                go_simp
                replace HX := Lib.hid (show Ext w (wt.setRow y0 (stL (c) (.slice a ts.length k) p9 b9).toArray) from below_setRow HX.out (by have := HN.out; omega) _)
                replace H1 := Lib.hid (row_far H1.out (stL (c) (.slice a ts.length k) p9 b9).toArray (show y1 ≠ y0 by have := HN.out; omega))
                try replace HOA := Lib.hid (own_turn HOA.out H0.out (by decide) (setRow_grown wt y0 (stL (c) (.slice a ts.length k) p9 b9).toArray))
                try replace HOR := Lib.hid (own_turn HOR.out H0.out (by decide) (setRow_grown wt y0 (stL (c) (.slice a ts.length k) p9 b9).toArray))
                try replace HOH := Lib.hid (own_turn HOH.out H0.out (by decide) (setRow_grown wt y0 (stL (c) (.slice a ts.length k) p9 b9).toArray))
                replace H0 := Lib.hid (H0.out.setRow (stL (c) (.slice a ts.length k) p9 b9))
                try replace H2 := Lib.hid (row_far H2.out (stL (c) (.slice a ts.length k) p9 b9).toArray (show y2 ≠ y0 by have := HN.out; omega))
                try replace HS4 := Lib.hid (HF4.out.stay HS4.out (y := y0) (by have := HN.out; omega) (stL (c) (.slice a ts.length k) p9 b9).toArray)
                generalize wt.setRow y0 (stL (c) (.slice a ts.length k) p9 b9).toArray = w18 at *
                clear HTK
                apply wpList_nil
                unfold edgF takeM at hf
                dsimp only at hf
                rw [HRp7.out] at hf
                dsimp only at hf
                rw [HRp8.out] at hf
                dsimp only at hf
                rw [HRp9.out] at hf
                dsimp only at hf
                have hat := aTermQ (HTQ.out.ext HX.out) HPp9.out c b9 u4 T1 (y2 + 1) HS4.out HF4.out (show y2 + 1 ≤ w18.heap.size from H2.out.lt) (by have := HL1.out; omega)
                obtain ⟨⟨pa, ba, ⟨gk, gn⟩, Ta⟩, hat1⟩ : ∃ r, aTermF ts T1 p9 b9 = r := ⟨_, rfl⟩
                rw [hat1] at hat hf
                dsimp only at hat hf
                have HPa := Lib.hid (show pa ≤ ts.length by have h := aTermF_le (T := T1) HPp9.out b9; rw [hat1] at h; exact h)
                have HAT := Lib.hid hat
                clear hat hat1
                go_upto_region 23 with fail
                apply wp_region_lit
                -- a load of a whole row: y0 block, H0.out fact RowAt, colanderref16.State the type's name
                refine plain_load rfl _ _ rfl y0 rfl _ _ (H0.out) Try.underlying70 rfl (by kernel_rfl) ?_
                go_simp
                refine wpList_plain rfl fun K1 hK1 => ?_
                go_simp
                refine hK1 _ _ ?_
                clear hK1 K1
                -- a call in a plain region: refine HAT.out.mono ?_; rintro e wt ⟨ua, rfl, hua, hxt⟩ the contract taken, and its results named
                refine wpList_plain rfl fun K1 hK1 => ?_
                go_simp
                refine HAT.out.mono ?_; rintro e wt ⟨ua, rfl, hua, hxt⟩
                go_simp
                refine hK1 _ _ ?_
                clear hK1 K1
                clear HS4
                -- memory has been made
                replace HX := Lib.hid (HX.out.trans hxt)
                replace H0 := Lib.hid (H0.out.ext hxt)
                replace H1 := Lib.hid (H1.out.ext hxt)
                try replace H2 := Lib.hid (H2.out.ext hxt)
                try replace H3 := Lib.hid (H3.out.ext hxt)
                try replace HS4 := Lib.hid (Strs.ext HS4.out hxt)
                try replace HOA := Lib.hid (own_ext HOA.out hxt)
                try replace HOR := Lib.hid (own_ext HOR.out hxt)
                try replace HOH := Lib.hid (own_ext HOH.out hxt)
                clear hxt
                refine wpList_plain rfl fun K1 hK1 => ?_
                go_simp
                refine hK1 _ _ ?_
                clear hK1 K1
                refine wpList_plain rfl fun K1 hK1 => ?_
                go_simp
                refine hK1 _ _ ?_
                clear hK1 K1
                refine wpList_plain rfl fun K1 hK1 => ?_
                go_simp
                refine hK1 _ _ ?_
                clear hK1 K1
                refine wpList_plain rfl fun K1 hK1 => ?_
                go_simp
                refine hK1 _ _ ?_
                clear hK1 K1
                clear hua HAT
                -- a state's row is put into box y0: c cells, pa place, ba bad, wt world, w19 world behind
                refine plain_store rfl _ _ _ rfl y0 (stL c (.slice a ts.length k) pa ba) rfl rfl (H0.out) (by kernel_rfl) rfl (stL_one c _ _ _ _ _) ?_
                go_simp
                replace HX := Lib.hid (show Ext w (wt.setRow y0 (stL c (.slice a ts.length k) pa ba).toArray) from below_setRow HX.out (by have := HN.out; omega) _)
                replace H1 := Lib.hid (row_far H1.out (stL c (.slice a ts.length k) pa ba).toArray (show y1 ≠ y0 by have := HN.out; omega))
                try replace HOA := Lib.hid (own_turn HOA.out H0.out (by decide) (setRow_grown wt y0 (stL c (.slice a ts.length k) pa ba).toArray))
                try replace HOR := Lib.hid (own_turn HOR.out H0.out (by decide) (setRow_grown wt y0 (stL c (.slice a ts.length k) pa ba).toArray))
                try replace HOH := Lib.hid (own_turn HOH.out H0.out (by decide) (setRow_grown wt y0 (stL c (.slice a ts.length k) pa ba).toArray))
                replace H0 := Lib.hid (H0.out.setRow (stL c (.slice a ts.length k) pa ba))
                try replace H2 := Lib.hid (row_far H2.out (stL c (.slice a ts.length k) pa ba).toArray (show y2 ≠ y0 by have := HN.out; omega))
                try replace HS4 := Lib.hid (HF4.out.stay HS4.out (y := y0) (by have := HN.out; omega) (stL c (.slice a ts.length k) pa ba).toArray)
                generalize wt.setRow y0 (stL c (.slice a ts.length k) pa ba).toArray = w19 at *
                have q1 := H2.out.frozen 5
                have q2 := H2.out.frozen 6
                have e1 := H2.out.cell (i := 5) rfl
                have e2 := H2.out.cell (i := 6) rfl
                refine wpList_plain rfl fun K1 hK1 => ?_
                go_simp
                refine hK1 _ _ ?_
                clear hK1 K1
                refine wpList_plain rfl fun K1 hK1 => ?_
                go_simp
                refine hK1 _ _ ?_
                clear hK1 K1
                have hw := atw_set (atw_set (AtW.mk HX.out H0.out H1.out H2.out) HN.out 5 (.bool gk)) HN.out 6 (.string gn)
                clear q1 q2 e1 e2 HX H0 H1 H2
                generalize (w19.setCell ⟨y2, 5, none⟩ (.bool gk)).setCell ⟨y2, 6, none⟩ (.string gn) = w20 at *
                have HX := Lib.hid (show Ext w w20 from hw.ext)
                have H0 := Lib.hid (show RowAt w20 y0 70 (stL c (.slice a ts.length k) pa ba) from hw.r0)
                have H1 := Lib.hid (show RowAt w20 y1 70 [.slice none 0 0, .int .i64 0, .bool false, .slice none 0 0, .slice none 0 0, .bool false, .bool false, .bool false, .int .i64 0, .int .i64 0, .slice none 0 0, .int .i64 0] from hw.r1)
                have H2 := Lib.hid (show RowAt w20 y2 64 [.int .i64 4, .bool fk, .string fn, .string x7, .string vl, .bool gk, .string gn] from hw.r2)
                clear hw
                apply wpList_nil
                -- a token is taken: 24 region, pa place, ba bad, 5 kind, HPa.out place within, pb bb xb results, w21 world behind
                go_upto_region 24 with fail
                -- the document's state in box y0 is handed to take, and what comes is put back (the region's operations up to the store): c the state's cells c, pa place, ba bad, 5 kind, HPa.out place within, pb new place, bb new bad, xb the text, w21 world behind. Facts: HTQ, HX, H0, H1, HN
                have htk := takeQ (HTQ.out.ext HX.out) (HPa.out) c ba 5 (by decide)
                obtain ⟨⟨pb, bb, xb⟩, hr⟩ : ∃ r, takeR ts 5 pa ba = r := ⟨_, rfl⟩
                rw [hr] at htk
                dsimp only at htk
                have HTK := Lib.hid htk
                have HRpb := Lib.hid hr
                have HPpb := Lib.hid (show pb ≤ ts.length by have h := takeR_le (ts := ts) (HPa.out) (q := 5) (by decide) ba; rw [hr] at h; exact h)
                clear htk hr
                apply wp_region_lit
                -- a load of a whole row: y0 block, H0.out fact RowAt, colanderref16.State the type's name
                refine plain_load rfl _ _ rfl y0 rfl _ _ (H0.out) Try.underlying70 rfl (by kernel_rfl) ?_
                go_simp
                -- a call in a plain region: refine HTK.out.mono ?_; rintro e wt ⟨rfl, hxt⟩ the contract taken, and its results named
                refine wpList_plain rfl fun K1 hK1 => ?_
                go_simp
                refine HTK.out.mono ?_; rintro e wt ⟨rfl, hxt⟩
                go_simp
                refine hK1 _ _ ?_
                clear hK1 K1
                -- memory has been made
                replace HX := Lib.hid (HX.out.trans hxt)
                replace H0 := Lib.hid (H0.out.ext hxt)
                replace H1 := Lib.hid (H1.out.ext hxt)
                try replace H2 := Lib.hid (H2.out.ext hxt)
                try replace H3 := Lib.hid (H3.out.ext hxt)
                try replace HS4 := Lib.hid (Strs.ext HS4.out hxt)
                try replace HOA := Lib.hid (own_ext HOA.out hxt)
                try replace HOR := Lib.hid (own_ext HOR.out hxt)
                try replace HOH := Lib.hid (own_ext HOH.out hxt)
                clear hxt
                refine wpList_plain rfl fun K1 hK1 => ?_
                go_simp
                refine hK1 _ _ ?_
                clear hK1 K1
                refine wpList_plain rfl fun K1 hK1 => ?_
                go_simp
                refine hK1 _ _ ?_
                clear hK1 K1
                refine wpList_plain rfl fun K1 hK1 => ?_
                go_simp
                refine hK1 _ _ ?_
                clear hK1 K1
                -- a state's row is put into box y0: (c) cells, pb place, bb bad, wt world, w21 world behind
                refine plain_store rfl _ _ _ rfl y0 (stL (c) (.slice a ts.length k) pb bb) rfl rfl (H0.out) (by kernel_rfl) rfl (stL_one (c) _ _ _ _ _) ?_
                go_simp
                replace HX := Lib.hid (show Ext w (wt.setRow y0 (stL (c) (.slice a ts.length k) pb bb).toArray) from below_setRow HX.out (by have := HN.out; omega) _)
                replace H1 := Lib.hid (row_far H1.out (stL (c) (.slice a ts.length k) pb bb).toArray (show y1 ≠ y0 by have := HN.out; omega))
                try replace HOA := Lib.hid (own_turn HOA.out H0.out (by decide) (setRow_grown wt y0 (stL (c) (.slice a ts.length k) pb bb).toArray))
                try replace HOR := Lib.hid (own_turn HOR.out H0.out (by decide) (setRow_grown wt y0 (stL (c) (.slice a ts.length k) pb bb).toArray))
                try replace HOH := Lib.hid (own_turn HOH.out H0.out (by decide) (setRow_grown wt y0 (stL (c) (.slice a ts.length k) pb bb).toArray))
                replace H0 := Lib.hid (H0.out.setRow (stL (c) (.slice a ts.length k) pb bb))
                try replace H2 := Lib.hid (row_far H2.out (stL (c) (.slice a ts.length k) pb bb).toArray (show y2 ≠ y0 by have := HN.out; omega))
                try replace HS4 := Lib.hid (HF4.out.stay HS4.out (y := y0) (by have := HN.out; omega) (stL (c) (.slice a ts.length k) pb bb).toArray)
                generalize wt.setRow y0 (stL (c) (.slice a ts.length k) pb bb).toArray = w21 at *
                clear HTK
                apply wpList_nil
                rw [HRpb.out] at hf
                dsimp only at hf
                have HL := Lib.hid hf
                clear hf
                go_upto_region 25 with fail
                have hf := HL.out
                cases hf
                -- anAtom: the atom is put behind the others, the state handed on: q place, qb bad, [.int .i64 4, .bool fk, .string fn, .string x7, .string vl, .bool gk, .string gn] the atom's cells, w21 world
                have HSL := Lib.hid (show Ats w21 (.slice c.a1 c.n1 c.k1) A from Sl.of_own (own_ext HO.out HX.out))
                have HXN := Lib.hid (Nat.le_trans HBB.out HX.out.size)
                have HAB := Lib.hid (show (0 + A.length) * 88 ≤ 140737488355328 ∧ 0 + A.length ≤ maxLen from ⟨by have := HAL.out; omega, by have := HAL.out; unfold maxLen; omega⟩)
                have HAC := Lib.hid (show (A.length + 1) * 88 ≤ 140737488355328 ∧ A.length + 1 ≤ maxLen from ⟨by have := HAL.out; omega, by have := HAL.out; unfold maxLen; omega⟩)
                refine wp_region_invN [129, 132, 133, 130, 134, 135, 136, 131, 137, 138] (nf := ?nfA) ?hnfA _ depAt (fun S u0 u1 u2 u3 u4 u5 u6 u7 u8 u9 W => AtG w w21 w21.heap.size y0 y1 A [.int .i64 4, .bool fk, .string fn, .string x7, .string vl, .bool gk, .string gn] (.slice c.a1 c.n1 c.k1) (fun u => (stL c (.slice a ts.length k) q qb).set 3 u) [.slice none 0 0, .int .i64 0, .bool false, .slice none 0 0, .slice none 0 0, .bool false, .bool false, .bool false, .int .i64 0, .int .i64 0, .slice none 0 0, .int .i64 0] S [u0, u1, u2, u3, u4, u5, u6, u7, u8, u9] W) hmo (by kernel_rfl) (by kernel_rfl) (puts_self _ _) rfl (fun _ _ _ _ _ _ _ _ _ _ => AtG.start rfl (Ext.drewN w21 1)) ?_ ?_
                case hnfA =>
                  intro u0 u1 u2 u3 u4 u5 u6 u7 u8 u9
                  conv => lhs; simp only [puts, Act.put, List.setIfInBounds_toArray, List.set_cons_succ, List.set_cons_zero]
                · refine ⟨?_, ?_, ?_, ?_, ?_, ?_, ?_, ?_, ?_, ?_, ?_, trivial⟩
                  all_goals
                    rintro S x0 x1 x2 x3 x4 x5 x6 x7 x8 x9 wq hd hn hG K hK
                    obtain ⟨hcl, h10, u0, u1, u2, u3, u4', u5', u6', v2, v8, v9, u7', he, hF⟩ := hG.opened hn (by decide)
                    cases he
                    clear hG
                    dsimp only at hK ⊢
                    have hK' := hK
                    clear hK
                    have HK := Lib.hid hK'
                    have HF := Lib.hid hF
                    have HN2 := Lib.hid hn
                    have HD := Lib.hid hd
                    have HCL := Lib.hid hcl
                    have H10 := Lib.hid h10
                    clear hK' hF hn hd hcl h10
                  · have hk := HK.out _ _ _ _ _ _ _ _ _ _ _ (AtG.of (k := 0) HCL.out HD.out H10.out (by decide) (HF.out.app.s0 HN2.out) HF.out.p2 HF.out.p8 HF.out.p9)
                    go_simp
                    exact hk
                  · have hk := HK.out _ _ _ _ _ _ _ _ _ _ _ (AtG.of (k := 3) HCL.out HD.out H10.out (by decide) HF.out.app.s3 HF.out.p2 HF.out.p8 HF.out.p9)
                    go_simp
                    exact hk
                  · have hu := HF.out.app.a3 (HD.out 1 (by decide))
                    have hk := HK.out _ _ _ _ _ _ _ _ _ _ _ (AtG.side (j := 2) HCL.out HD.out H10.out (by decide) (by decide) HF.out (a2 := .pointer (some ⟨y0, 3, none⟩)) (fun _ => rfl) HF.out.p8 HF.out.p9)
                    subst hu
                    go_simp
                    exact hk
                  · have hu := HF.out.p2 (HD.out 2 (by decide))
                    have hk := HK.out _ _ _ _ _ _ _ _ _ _ _ (AtG.of (k := 1) HCL.out HD.out H10.out (by decide) HF.out.app.s1 HF.out.p2 HF.out.p8 HF.out.p9)
                    have d3 := (H0.out.ext HF.out.app.ext).cell (i := 3) rfl
                    subst hu
                    go_simp
                    exact hk
                  · have h0 := HD.out 0 (by decide)
                    have hv := HF.out.app.a1 (HD.out 3 (by decide))
                    have ho := HF.out.app.a0 h0 HN2.out
                    have hsl := HSL.out.ext HF.out.app.ext
                    rw [← hv] at hsl
                    have HO2 := Lib.hid ho
                    have HS := Lib.hid hsl
                    have H0' := Lib.hid h0
                    clear hv ho hsl h0
                    rw [if_pos (show Region.wanted _ _ = true from rfl)]
                    refine wp_append_sl wq _ _ 24 rfl elAt rfl HO2.out rfl HS.out (ats_len A) (ats_one A) HAB.out.1 HAB.out.2 HF.out.app.ext.size ?_
                    intro v' w' ho hb hg _
                    simp only [Act.put, List.setIfInBounds_toArray, List.set_cons_succ, List.set_cons_zero]
                    rw [Nat.zero_add, List.nil_append] at ho
                    exact HK.out _ _ _ _ _ _ _ _ _ _ _ (AtG.of (k := 2) HCL.out HD.out H10.out (by decide) (HF.out.app.s2 H0'.out HN2.out hb hg ho) HF.out.p2 HF.out.p8 HF.out.p9)
                  · have hk := HK.out _ _ _ _ _ _ _ _ _ _ _ (AtG.of (k := 4) HCL.out HD.out H10.out (by decide) HF.out.app.s4 HF.out.p2 HF.out.p8 HF.out.p9)
                    have hr2 := H2.out.ext HF.out.app.ext
                    obtain ⟨e0, e1, e2, e3, e4, e5, e6⟩ := row7_facts hr2
                    go_simp
                    exact hk
                  · have hu := HF.out.app.a4 (HD.out 5 (by decide))
                    have hk := HK.out _ _ _ _ _ _ _ _ _ _ _ (AtG.of (k := 5) HCL.out HD.out H10.out (by decide) (HF.out.app.s5 HN2.out rfl) HF.out.p2 HF.out.p8 HF.out.p9)
                    subst hu
                    go_simp
                    exact hk
                  · have h2 := HD.out 4 (by decide)
                    have h5 := HD.out 6 (by decide)
                    have ho := HF.out.app.a2 h2 HN2.out
                    have hsl := Sl.of_own (HF.out.app.a5 h5 HN2.out)
                    have HO2 := Lib.hid ho
                    rw [if_pos (show Region.wanted _ _ = true from rfl)]
                    refine wp_append_sl wq _ _ 24 rfl elAt rfl ho rfl hsl rfl (by simp [Value.oneCell']) HAC.out.1 HAC.out.2 HF.out.app.ext.size ?_
                    intro v' w' ho hb hg _
                    simp only [Act.put, List.setIfInBounds_toArray, List.set_cons_succ, List.set_cons_zero]
                    exact HK.out _ _ _ _ _ _ _ _ _ _ _ (AtG.of (k := 6) HCL.out HD.out H10.out (by decide) (HF.out.app.s6 h2 h5 HN2.out hb ho) HF.out.p2 HF.out.p8 HF.out.p9)
                  · have hk := HK.out _ _ _ _ _ _ _ _ _ _ _ (AtG.side (j := 8) HCL.out HD.out H10.out (by decide) (by decide) HF.out (a8 := .pointer (some ⟨y0, 3, none⟩)) HF.out.p2 (fun _ => rfl) HF.out.p9)
                    go_simp
                    exact hk
                  · have hu := HF.out.p8 (HD.out 8 (by decide))
                    have hk := HK.out _ _ _ _ _ _ _ _ _ _ _ (AtG.side (j := 9) HCL.out HD.out H10.out (by decide) (by decide) HF.out (a9 := .pointer (some ⟨y0, 3, none⟩)) HF.out.p2 HF.out.p8 (fun _ => rfl))
                    subst hu
                    go_simp
                    exact hk
                  · have hu := HF.out.p9 (HD.out 9 (by decide))
                    have ho := HF.out.app.a6 (HD.out 7 (by decide))
                    obtain ⟨va, vc, rfl⟩ := own_vw ho
                    have hr0 := H0.out.ext HF.out.app.ext
                    have hr1 := H1.out.ext HF.out.app.ext
                    have d3 := hr0.cell (i := 3) rfl
                    have f3 := hr0.frozen 3
                    have hk := HK.out _ _ _ _ _ _ _ _ _ _ _ (AtG.last HCL.out HD.out (u0 := x0) (u1 := x1) (u2 := x2) (u3 := x3) (u4 := x4) (u5 := x5) (u6 := .slice va (A.length + 1) vc) (v2 := x7) (v8 := x8) (v9 := x9) ⟨va, _, vc, own_turn ho hr0 (by decide) (grown_set wq y0 3 (.slice va (A.length + 1) vc)), hr0.set 3 _, row_setk hr1 (by have := HN.out; omega) 3 _, Ext.set_of (HX.out.trans HF.out.app.ext) (by have := HN.out; omega) _⟩)
                    subst hu
                    go_simp
                    exact hk
                · rintro S x0 x1 x2 x3 x4 x5 x6 x7 x8 x9 wq hS ⟨_, u0, u1, u2, u3, u4', u5', u6', v2, v8, v9, he, hor⟩
                  cases he
                  try dsimp only
                  rcases hor with ⟨h10, _⟩ | ⟨_, _, hE⟩
                  · rw [hS 10 (by decide)] at h10
                    cases h10
                  obtain ⟨b1', b2', b3', ho, hr0, hr1, hx⟩ := hE
                  have HOF := Lib.hid ho
                  clear H0 H1 H2 HX
                  have HX := Lib.hid hx
                  have H0 := Lib.hid (show RowAt wq y0 70 (stL { c with a1 := b1', n1 := b2', k1 := b3' } (.slice a ts.length k) q qb) from hr0)
                  have H1 := Lib.hid hr1
                  clear ho hr0 hr1 hx hS
                  go_upto_region 26 with fail
                  have HOG := Lib.hid (own_turn HOF.out H1.out (by decide) (setRow_grown wq y1 (stL { c with a1 := b1', n1 := b2', k1 := b3' } (.slice a ts.length k) q qb).toArray))
                  apply wp_region_lit
                  -- a load of a whole row: y0 block, H0.out fact RowAt, colanderref16.State the type's name
                  refine plain_load rfl _ _ rfl y0 rfl _ _ (H0.out) Try.underlying70 rfl (by kernel_rfl) ?_
                  go_simp
                  refine plain_store rfl _ _ _ rfl y1 (stL { c with a1 := b1', n1 := b2', k1 := b3' } (.slice a ts.length k) q qb) rfl rfl (H1.out) (by kernel_rfl) rfl (stL_one { c with a1 := b1', n1 := b2', k1 := b3' } _ _ _ _ _) ?_
                  go_simp
                  replace HX := Lib.hid (show Ext w (wq.setRow y1 (stL { c with a1 := b1', n1 := b2', k1 := b3' } (.slice a ts.length k) q qb).toArray) from below_setRow HX.out (by have := HN.out; omega) _)
                  try replace HOA := Lib.hid (own_turn HOA.out H1.out (by decide) (setRow_grown wq y1 (stL { c with a1 := b1', n1 := b2', k1 := b3' } (.slice a ts.length k) q qb).toArray))
                  try replace HOR := Lib.hid (own_turn HOR.out H1.out (by decide) (setRow_grown wq y1 (stL { c with a1 := b1', n1 := b2', k1 := b3' } (.slice a ts.length k) q qb).toArray))
                  try replace HOH := Lib.hid (own_turn HOH.out H1.out (by decide) (setRow_grown wq y1 (stL { c with a1 := b1', n1 := b2', k1 := b3' } (.slice a ts.length k) q qb).toArray))
                  replace H1 := Lib.hid (H1.out.setRow (stL { c with a1 := b1', n1 := b2', k1 := b3' } (.slice a ts.length k) q qb))
                  clear H0
                  generalize wq.setRow y1 (stL { c with a1 := b1', n1 := b2', k1 := b3' } (.slice a ts.length k) q qb).toArray = wend at *
                  apply wpList_nil
                  go_wp2_with fail
                  refine bodyPost_ret (results_row0 rfl rfl H1.out Try.underlying70 rfl (by kernel_rfl)) rfl ⟨b1', b2', b3', rfl, ?_, HX.out⟩
                  first
                    | exact own_base HOG.out HXN.out
                    | (rw [flat_snoc, List.length_append]; exact own_base HOG.out HXN.out)
            | false =>
              have hb : ¬ (k2 = 1 ∧ b5 = false ∧ kindAt ts p5 = 10) := by have h := HC10.out; simpa using h
              rw [if_neg hb] at hf
              clear hb
              have HL := Lib.hid hf
              clear hf
              go_upto_region 25 with fail
              have hf := HL.out
              cases hf
              -- anAtom: the atom is put behind the others, the state handed on: q place, qb bad, [.int .i64 k2, .bool fk, .string fn, .string nm, .string vl, .bool false, .string ⟨#[]⟩] the atom's cells, w11 world
              have HSL := Lib.hid (show Ats w11 (.slice c.a1 c.n1 c.k1) A from Sl.of_own (own_ext HO.out HX.out))
              have HXN := Lib.hid (Nat.le_trans HBB.out HX.out.size)
              have HAB := Lib.hid (show (0 + A.length) * 88 ≤ 140737488355328 ∧ 0 + A.length ≤ maxLen from ⟨by have := HAL.out; omega, by have := HAL.out; unfold maxLen; omega⟩)
              have HAC := Lib.hid (show (A.length + 1) * 88 ≤ 140737488355328 ∧ A.length + 1 ≤ maxLen from ⟨by have := HAL.out; omega, by have := HAL.out; unfold maxLen; omega⟩)
              refine wp_region_invN [129, 132, 133, 130, 134, 135, 136, 131, 137, 138] (nf := ?nfB) ?hnfB _ depAt (fun S u0 u1 u2 u3 u4 u5 u6 u7 u8 u9 W => AtG w w11 w11.heap.size y0 y1 A [.int .i64 k2, .bool fk, .string fn, .string nm, .string vl, .bool false, .string ⟨#[]⟩] (.slice c.a1 c.n1 c.k1) (fun u => (stL c (.slice a ts.length k) q qb).set 3 u) [.slice none 0 0, .int .i64 0, .bool false, .slice none 0 0, .slice none 0 0, .bool false, .bool false, .bool false, .int .i64 0, .int .i64 0, .slice none 0 0, .int .i64 0] S [u0, u1, u2, u3, u4, u5, u6, u7, u8, u9] W) hmo (by kernel_rfl) (by kernel_rfl) (puts_self _ _) rfl (fun _ _ _ _ _ _ _ _ _ _ => AtG.start rfl (Ext.drewN w11 1)) ?_ ?_
              case hnfB =>
                intro u0 u1 u2 u3 u4 u5 u6 u7 u8 u9
                conv => lhs; simp only [puts, Act.put, List.setIfInBounds_toArray, List.set_cons_succ, List.set_cons_zero]
              · refine ⟨?_, ?_, ?_, ?_, ?_, ?_, ?_, ?_, ?_, ?_, ?_, trivial⟩
                all_goals
                  rintro S x0 x1 x2 x3 x4 x5 x6 x7 x8 x9 wq hd hn hG K hK
                  obtain ⟨hcl, h10, u0, u1, u2, u3, u4', u5', u6', v2, v8, v9, u7', he, hF⟩ := hG.opened hn (by decide)
                  cases he
                  clear hG
                  dsimp only at hK ⊢
                  have hK' := hK
                  clear hK
                  have HK := Lib.hid hK'
                  have HF := Lib.hid hF
                  have HN2 := Lib.hid hn
                  have HD := Lib.hid hd
                  have HCL := Lib.hid hcl
                  have H10 := Lib.hid h10
                  clear hK' hF hn hd hcl h10
                · have hk := HK.out _ _ _ _ _ _ _ _ _ _ _ (AtG.of (k := 0) HCL.out HD.out H10.out (by decide) (HF.out.app.s0 HN2.out) HF.out.p2 HF.out.p8 HF.out.p9)
                  go_simp
                  exact hk
                · have hk := HK.out _ _ _ _ _ _ _ _ _ _ _ (AtG.of (k := 3) HCL.out HD.out H10.out (by decide) HF.out.app.s3 HF.out.p2 HF.out.p8 HF.out.p9)
                  go_simp
                  exact hk
                · have hu := HF.out.app.a3 (HD.out 1 (by decide))
                  have hk := HK.out _ _ _ _ _ _ _ _ _ _ _ (AtG.side (j := 2) HCL.out HD.out H10.out (by decide) (by decide) HF.out (a2 := .pointer (some ⟨y0, 3, none⟩)) (fun _ => rfl) HF.out.p8 HF.out.p9)
                  subst hu
                  go_simp
                  exact hk
                · have hu := HF.out.p2 (HD.out 2 (by decide))
                  have hk := HK.out _ _ _ _ _ _ _ _ _ _ _ (AtG.of (k := 1) HCL.out HD.out H10.out (by decide) HF.out.app.s1 HF.out.p2 HF.out.p8 HF.out.p9)
                  have d3 := (H0.out.ext HF.out.app.ext).cell (i := 3) rfl
                  subst hu
                  go_simp
                  exact hk
                · have h0 := HD.out 0 (by decide)
                  have hv := HF.out.app.a1 (HD.out 3 (by decide))
                  have ho := HF.out.app.a0 h0 HN2.out
                  have hsl := HSL.out.ext HF.out.app.ext
                  rw [← hv] at hsl
                  have HO2 := Lib.hid ho
                  have HS := Lib.hid hsl
                  have H0' := Lib.hid h0
                  clear hv ho hsl h0
                  rw [if_pos (show Region.wanted _ _ = true from rfl)]
                  refine wp_append_sl wq _ _ 24 rfl elAt rfl HO2.out rfl HS.out (ats_len A) (ats_one A) HAB.out.1 HAB.out.2 HF.out.app.ext.size ?_
                  intro v' w' ho hb hg _
                  simp only [Act.put, List.setIfInBounds_toArray, List.set_cons_succ, List.set_cons_zero]
                  rw [Nat.zero_add, List.nil_append] at ho
                  exact HK.out _ _ _ _ _ _ _ _ _ _ _ (AtG.of (k := 2) HCL.out HD.out H10.out (by decide) (HF.out.app.s2 H0'.out HN2.out hb hg ho) HF.out.p2 HF.out.p8 HF.out.p9)
                · have hk := HK.out _ _ _ _ _ _ _ _ _ _ _ (AtG.of (k := 4) HCL.out HD.out H10.out (by decide) HF.out.app.s4 HF.out.p2 HF.out.p8 HF.out.p9)
                  have hr2 := H2.out.ext HF.out.app.ext
                  obtain ⟨e0, e1, e2, e3, e4, e5, e6⟩ := row7_facts hr2
                  go_simp
                  exact hk
                · have hu := HF.out.app.a4 (HD.out 5 (by decide))
                  have hk := HK.out _ _ _ _ _ _ _ _ _ _ _ (AtG.of (k := 5) HCL.out HD.out H10.out (by decide) (HF.out.app.s5 HN2.out rfl) HF.out.p2 HF.out.p8 HF.out.p9)
                  subst hu
                  go_simp
                  exact hk
                · have h2 := HD.out 4 (by decide)
                  have h5 := HD.out 6 (by decide)
                  have ho := HF.out.app.a2 h2 HN2.out
                  have hsl := Sl.of_own (HF.out.app.a5 h5 HN2.out)
                  have HO2 := Lib.hid ho
                  rw [if_pos (show Region.wanted _ _ = true from rfl)]
                  refine wp_append_sl wq _ _ 24 rfl elAt rfl ho rfl hsl rfl (by simp [Value.oneCell']) HAC.out.1 HAC.out.2 HF.out.app.ext.size ?_
                  intro v' w' ho hb hg _
                  simp only [Act.put, List.setIfInBounds_toArray, List.set_cons_succ, List.set_cons_zero]
                  exact HK.out _ _ _ _ _ _ _ _ _ _ _ (AtG.of (k := 6) HCL.out HD.out H10.out (by decide) (HF.out.app.s6 h2 h5 HN2.out hb ho) HF.out.p2 HF.out.p8 HF.out.p9)
                · have hk := HK.out _ _ _ _ _ _ _ _ _ _ _ (AtG.side (j := 8) HCL.out HD.out H10.out (by decide) (by decide) HF.out (a8 := .pointer (some ⟨y0, 3, none⟩)) HF.out.p2 (fun _ => rfl) HF.out.p9)
                  go_simp
                  exact hk
                · have hu := HF.out.p8 (HD.out 8 (by decide))
                  have hk := HK.out _ _ _ _ _ _ _ _ _ _ _ (AtG.side (j := 9) HCL.out HD.out H10.out (by decide) (by decide) HF.out (a9 := .pointer (some ⟨y0, 3, none⟩)) HF.out.p2 HF.out.p8 (fun _ => rfl))
                  subst hu
                  go_simp
                  exact hk
                · have hu := HF.out.p9 (HD.out 9 (by decide))
                  have ho := HF.out.app.a6 (HD.out 7 (by decide))
                  obtain ⟨va, vc, rfl⟩ := own_vw ho
                  have hr0 := H0.out.ext HF.out.app.ext
                  have hr1 := H1.out.ext HF.out.app.ext
                  have d3 := hr0.cell (i := 3) rfl
                  have f3 := hr0.frozen 3
                  have hk := HK.out _ _ _ _ _ _ _ _ _ _ _ (AtG.last HCL.out HD.out (u0 := x0) (u1 := x1) (u2 := x2) (u3 := x3) (u4 := x4) (u5 := x5) (u6 := .slice va (A.length + 1) vc) (v2 := x7) (v8 := x8) (v9 := x9) ⟨va, _, vc, own_turn ho hr0 (by decide) (grown_set wq y0 3 (.slice va (A.length + 1) vc)), hr0.set 3 _, row_setk hr1 (by have := HN.out; omega) 3 _, Ext.set_of (HX.out.trans HF.out.app.ext) (by have := HN.out; omega) _⟩)
                  subst hu
                  go_simp
                  exact hk
              · rintro S x0 x1 x2 x3 x4 x5 x6 x7 x8 x9 wq hS ⟨_, u0, u1, u2, u3, u4', u5', u6', v2, v8, v9, he, hor⟩
                cases he
                try dsimp only
                rcases hor with ⟨h10, _⟩ | ⟨_, _, hE⟩
                · rw [hS 10 (by decide)] at h10
                  cases h10
                obtain ⟨b1', b2', b3', ho, hr0, hr1, hx⟩ := hE
                have HOF := Lib.hid ho
                clear H0 H1 H2 HX
                have HX := Lib.hid hx
                have H0 := Lib.hid (show RowAt wq y0 70 (stL { c with a1 := b1', n1 := b2', k1 := b3' } (.slice a ts.length k) q qb) from hr0)
                have H1 := Lib.hid hr1
                clear ho hr0 hr1 hx hS
                go_upto_region 26 with fail
                have HOG := Lib.hid (own_turn HOF.out H1.out (by decide) (setRow_grown wq y1 (stL { c with a1 := b1', n1 := b2', k1 := b3' } (.slice a ts.length k) q qb).toArray))
                apply wp_region_lit
                -- a load of a whole row: y0 block, H0.out fact RowAt, colanderref16.State the type's name
                refine plain_load rfl _ _ rfl y0 rfl _ _ (H0.out) Try.underlying70 rfl (by kernel_rfl) ?_
                go_simp
                refine plain_store rfl _ _ _ rfl y1 (stL { c with a1 := b1', n1 := b2', k1 := b3' } (.slice a ts.length k) q qb) rfl rfl (H1.out) (by kernel_rfl) rfl (stL_one { c with a1 := b1', n1 := b2', k1 := b3' } _ _ _ _ _) ?_
                go_simp
                replace HX := Lib.hid (show Ext w (wq.setRow y1 (stL { c with a1 := b1', n1 := b2', k1 := b3' } (.slice a ts.length k) q qb).toArray) from below_setRow HX.out (by have := HN.out; omega) _)
                try replace HOA := Lib.hid (own_turn HOA.out H1.out (by decide) (setRow_grown wq y1 (stL { c with a1 := b1', n1 := b2', k1 := b3' } (.slice a ts.length k) q qb).toArray))
                try replace HOR := Lib.hid (own_turn HOR.out H1.out (by decide) (setRow_grown wq y1 (stL { c with a1 := b1', n1 := b2', k1 := b3' } (.slice a ts.length k) q qb).toArray))
                try replace HOH := Lib.hid (own_turn HOH.out H1.out (by decide) (setRow_grown wq y1 (stL { c with a1 := b1', n1 := b2', k1 := b3' } (.slice a ts.length k) q qb).toArray))
                replace H1 := Lib.hid (H1.out.setRow (stL { c with a1 := b1', n1 := b2', k1 := b3' } (.slice a ts.length k) q qb))
                clear H0
                generalize wq.setRow y1 (stL { c with a1 := b1', n1 := b2', k1 := b3' } (.slice a ts.length k) q qb).toArray = wend at *
                apply wpList_nil
                go_wp2_with fail
                refine bodyPost_ret (results_row0 rfl rfl H1.out Try.underlying70 rfl (by kernel_rfl)) rfl ⟨b1', b2', b3', rfl, ?_, HX.out⟩
                first
                  | exact own_base HOG.out HXN.out
                  | (rw [flat_snoc, List.length_append]; exact own_base HOG.out HXN.out)
end Go.Proofs.Ytngnplghjaojhaa
