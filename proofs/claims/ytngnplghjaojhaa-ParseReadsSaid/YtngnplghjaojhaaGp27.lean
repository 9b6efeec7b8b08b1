/- The document's state: a number. -/
import Derived.Test.YtngnplghjaojhaaGp26
import Derived.Test.YtngnplghjaojhaaGp08
namespace Go.Proofs.Ytngnplghjaojhaa
set_option maxRecDepth 100000
set_option maxHeartbeats 2000000
set_option linter.unusedSimpArgs false
open Go.RowKit Go.Shelf Go.Sort
attribute [local go_sem] Oper.semAt_some wide_fn wide_depth
set_option linter.unusedVariables false

/-- What a number comes to: the place, whether it is bad, the number. -/
def numF (ts : List Tk) (p : Nat) (bad : Bool) : Nat × Bool × Int :=
  if (takeR ts 1 p bad).2.1 = true then ((takeR ts 1 p bad).1, true, 0)
  else match (ts.getD ((takeR ts 1 p bad).1 - 1) tkNil).number with
    | none => ((takeR ts 1 p bad).1 - 1, true, 0)
    | some n => ((takeR ts 1 p bad).1, false, n)
theorem numL_nonnegS : ∀ (l : List UInt8) (n : Int), 0 ≤ n → ∀ x, numL n l = some x → 0 ≤ x := by
  intro l
  induction l with
  | nil => intro n h0 x hx; cases hx; exact h0
  | cons c l ih =>
    intro n h0 x hx
    by_cases h : 48 ≤ c.toNat ∧ c.toNat ≤ 57 ∧ 10 * n + (c.toNat - 48 : Nat) < 2147483648
    · rw [numL_yes h] at hx; exact ih _ (by omega) x hx
    · rw [numL_no h] at hx; cases hx
theorem number_nonnegS {t : Tk} {n : Int} (h : t.number = some n) : 0 ≤ n := by
  unfold Tk.number numberF at h
  split at h
  · cases h
  · exact numL_nonnegS _ 0 (by omega) n h
set_option maxRecDepth 100000 in
set_option maxHeartbeats 2000000 in
theorem numQ {w : World} {ts : List Tk} {a : Option Addr} {k p : Nat} (h : TkQ w ts a k) (hp : p ≤ ts.length) (c : Sc) (bad : Bool) :
    Calls Try.prog 58 #[.agg (stL c (.slice a ts.length k) p bad).toArray] w fun e w' =>
      e = .returned (.tuple #[.agg (stL c (.slice a ts.length k) (numF ts p bad).1 (numF ts p bad).2.1).toArray, .int .i64 (numF ts p bad).2.2]) ∧ Ext w w' := by
  obtain ⟨⟨q, qb, qn⟩, hR⟩ : ∃ R, numF ts p bad = R := ⟨_, rfl⟩
  rw [hR]
  dsimp only
  have HF := Lib.hid hR
  have HTQ := Lib.hid h
  have HPP := Lib.hid hp
  clear h hp hR
  -- a function over a state: colander/colanderref16.number its name, c the state's cells c, p place, bad bad
  -- a function with two boxes at its head: colander/colanderref16.number its name, stL c (.slice a ts.length k) p bad [.slice none 0 0, .int .i64 0, .bool false, .slice none 0 0, .slice none 0 0, .bool false, .bool false, .bool false, .int .i64 0, .int .i64 0, .slice none 0 0, .int .i64 0] their cells (lists), colanderref16.State colanderref16.State their types' names
  have hbx := boxes2 w (stL c (.slice a ts.length k) p bad) 70 ([.slice none 0 0, .int .i64 0, .bool false, .slice none 0 0, .slice none 0 0, .bool false, .bool false, .bool false, .int .i64 0, .int .i64 0, .slice none 0 0, .int .i64 0]) 70
  have HBX := Lib.hid hbx
  clear hbx
  go_enter Try.func58, Try.ntmps58
  go_upto_region 1 with fail
  generalize (w.alloc (.cells (stL c (.slice a ts.length k) p bad).toArray 70)).alloc (.cells ([.slice none 0 0, .int .i64 0, .bool false, .slice none 0 0, .slice none 0 0, .bool false, .bool false, .bool false, .int .i64 0, .int .i64 0, .slice none 0 0, .int .i64 0]).toArray 70) = w1 at *
  obtain ⟨y0, hy0⟩ : ∃ x, w.heap.size = x := ⟨_, rfl⟩
  obtain ⟨y1, hy1⟩ : ∃ x, y0 + 1 = x := ⟨_, rfl⟩
  rw [hy0, hy1] at HBX
  simp only [hy0, hy1]
  have HN := Lib.hid (show w.heap.size = y0 ∧ y0 + 1 = y1 from ⟨hy0, hy1⟩)
  have HX := Lib.hid HBX.out.1
  have H0 := Lib.hid HBX.out.2.1
  have H1 := Lib.hid HBX.out.2.2
  clear hy0 hy1 HBX
  -- the document's state in box y0 is handed to take, and what comes is put back (the region's operations up to the store): c the state's cells c, p place, bad bad, 1 kind, HPP.out place within, p1 new place, b1 new bad, x1 the text, w2 world behind. Facts: HTQ, HX, H0, H1, HN
  have htk := takeQ (HTQ.out.ext HX.out) (HPP.out) c bad 1 (by decide)
  obtain ⟨⟨p1, b1, x1⟩, hr⟩ : ∃ r, takeR ts 1 p bad = r := ⟨_, rfl⟩
  rw [hr] at htk
  dsimp only at htk
  have HTK := Lib.hid htk
  have HRp1 := Lib.hid hr
  have HPp1 := Lib.hid (show p1 ≤ ts.length by have h := takeR_le (ts := ts) (HPP.out) (q := 1) (by decide) bad; rw [hr] at h; exact h)
  clear htk hr
  apply wp_region_lit
  -- a load of a whole row: y0 block, H0.out fact RowAt, colanderref16.State the type's name
  refine plain_load rfl _ _ rfl y0 rfl _ _ (H0.out) Try.underlying70 rfl (by kernel_rfl) ?_
  go_simp
  -- a call in a plain region: refine HTK.out.mono ?_; rintro e wt ⟨rfl, hxt⟩ the contract taken, and its results named
  refine wpList_plain rfl fun K1 hK1 => ?_
  go_simp
  refine HTK.out.mono ?_; rintro e wt ⟨rfl, hxt⟩
  go_simp
  refine hK1 _ _ ?_
  clear hK1 K1
  -- memory has been made
  replace HX := Lib.hid (HX.out.trans hxt)
  replace H0 := Lib.hid (H0.out.ext hxt)
  replace H1 := Lib.hid (H1.out.ext hxt)
  try replace H2 := Lib.hid (H2.out.ext hxt)
  try replace H3 := Lib.hid (H3.out.ext hxt)
  try replace HS4 := Lib.hid (Strs.ext HS4.out hxt)
  try replace HOA := Lib.hid (own_ext HOA.out hxt)
  try replace HOR := Lib.hid (own_ext HOR.out hxt)
  try replace HOH := Lib.hid (own_ext HOH.out hxt)
  clear hxt
  refine wpList_plain rfl fun K1 hK1 => ?_
  go_simp
  refine hK1 _ _ ?_
  clear hK1 K1
  refine wpList_plain rfl fun K1 hK1 => ?_
  go_simp
  refine hK1 _ _ ?_
  clear hK1 K1
  refine wpList_plain rfl fun K1 hK1 => ?_
  go_simp
  refine hK1 _ _ ?_
  clear hK1 K1
  -- a state's row is put into box y0: (c) cells, p1 place, b1 bad, wt world, w2 world behind
  refine plain_store rfl _ _ _ rfl y0 (stL (c) (.slice a ts.length k) p1 b1) rfl rfl (H0.out) (by kernel_rfl) rfl (stL_one (c) _ _ _ _ _) ?_
  go_simp
  replace HX := Lib.hid (show Ext w (wt.setRow y0 (stL (c) (.slice a ts.length k) p1 b1).toArray) from below_setRow HX.out (by have := HN.out; omega) _)
  replace H1 := Lib.hid (row_far H1.out (stL (c) (.slice a ts.length k) p1 b1).toArray (show y1 ≠ y0 by have := HN.out; omega))
  try replace HOA := Lib.hid (own_turn HOA.out H0.out (by decide) (setRow_grown wt y0 (stL (c) (.slice a ts.length k) p1 b1).toArray))
  try replace HOR := Lib.hid (own_turn HOR.out H0.out (by decide) (setRow_grown wt y0 (stL (c) (.slice a ts.length k) p1 b1).toArray))
  try replace HOH := Lib.hid (own_turn HOH.out H0.out (by decide) (setRow_grown wt y0 (stL (c) (.slice a ts.length k) p1 b1).toArray))
  replace H0 := Lib.hid (H0.out.setRow (stL (c) (.slice a ts.length k) p1 b1))
  try replace H2 := Lib.hid (row_far H2.out (stL (c) (.slice a ts.length k) p1 b1).toArray (show y2 ≠ y0 by have := HN.out; omega))
  try replace HS4 := Lib.hid (HF4.out.stay HS4.out (y := y0) (by have := HN.out; omega) (stL (c) (.slice a ts.length k) p1 b1).toArray)
  generalize wt.setRow y0 (stL (c) (.slice a ts.length k) p1 b1).toArray = w2 at *
  clear HTK
  apply wpList_nil
  have d2 := H0.out.cell (i := 2) rfl
  have hf := HF.out
  unfold numF at hf
  rw [HRp1.out] at hf
  dsimp only at hf
  cases b1 with
  | true =>
    rw [if_pos rfl] at hf
    cases hf
    go_upto_region 3 with fail
    clear d2
    -- the state of box y0 is handed on in box y1: c cells, q place, true bad, w2 world, w3 world behind (the region's load and store)
    apply wp_region_lit
    -- a load of a whole row: y0 block, H0.out fact RowAt, colanderref16.State the type's name
    refine plain_load rfl _ _ rfl y0 rfl _ _ (H0.out) Try.underlying70 rfl (by kernel_rfl) ?_
    go_simp
    refine plain_store rfl _ _ _ rfl y1 (stL c (.slice a ts.length k) q true) rfl rfl (H1.out) (by kernel_rfl) rfl (stL_one c _ _ _ _ _) ?_
    go_simp
    replace HX := Lib.hid (show Ext w (w2.setRow y1 (stL c (.slice a ts.length k) q true).toArray) from below_setRow HX.out (by have := HN.out; omega) _)
    try replace HOA := Lib.hid (own_turn HOA.out H1.out (by decide) (setRow_grown w2 y1 (stL c (.slice a ts.length k) q true).toArray))
    try replace HOR := Lib.hid (own_turn HOR.out H1.out (by decide) (setRow_grown w2 y1 (stL c (.slice a ts.length k) q true).toArray))
    try replace HOH := Lib.hid (own_turn HOH.out H1.out (by decide) (setRow_grown w2 y1 (stL c (.slice a ts.length k) q true).toArray))
    replace H1 := Lib.hid (H1.out.setRow (stL c (.slice a ts.length k) q true))
    clear H0
    generalize w2.setRow y1 (stL c (.slice a ts.length k) q true).toArray = w3 at *
    refine wpList_plain rfl fun K1 hK1 => ?_
    go_simp
    refine hK1 _ _ ?_
    clear hK1 K1
    apply wpList_nil
    go_wp2_with fail
    exact bodyPost_ret (results_row1 rfl rfl H1.out Try.underlying70 rfl (by kernel_rfl)) rfl ⟨rfl, HX.out⟩
  | false =>
    rw [if_neg (by decide)] at hf
    have h1 : p1 = p + 1 ∧ p < ts.length ∧ bad = false := by
      have hr := HRp1.out
      unfold takeR at hr
      split at hr
      · rename_i hh
        have := kindAt_lt (ts := ts) (p := p) (by rw [hh.2]; decide)
        cases hr
        exact ⟨rfl, this, hh.1⟩
      · cases hr
    obtain ⟨rfl, hlt, rfl⟩ := h1
    rw [show p + 1 - 1 = p from rfl, List.getD_eq_getElem?_getD, List.getElem?_eq_getElem hlt, Option.getD_some] at hf
    have hsub : IntKind.i64.wrap (p : Int) = (p : Int) := IntWalk.i64_in _ (by have := HTQ.out.few; omega)
    obtain ⟨b, o, hsl, t0, t1, t2⟩ := (HTQ.out.ext HX.out).toks.at_ hlt
    have hnm := refNum_any ts[p] w2
    have hnr : numR ts[p].kind (bts ts[p].text) = match ts[p].number with | some n => n | none => -1 := by rw [number_ref]; rfl
    rw [hnr] at hnm
    have hnn : ∀ n, ts[p].number = some n → 0 ≤ n := fun n hn => number_nonnegS hn
    generalize ts[p] = t at *
    obtain ⟨tk, tt, ta⟩ := t
    unfold tkV at hnm
    dsimp only at t0 t1 t2 hnm
    have d0 : w2.cell? ⟨y0, 0, none⟩ = some (.slice (some ⟨b, o, none⟩) ts.length k) := by rw [← hsl]; exact H0.out.cell (i := 0) rfl
    clear hsl
    have d1 : w2.cell? ⟨y0, 1, none⟩ = some (.int .i64 ((p : Int) + 1)) := H0.out.cell (i := 1) rfl
    clear hnr
    cases hc : Tk.number ⟨tk, tt, ta⟩ with
    | none =>
      rw [hc] at hnm hf
      dsimp only at hf hnm
      cases hf
      have HNM := Lib.hid hnm
      clear hnm hc hnn
      go_wp2_with fail
      refine HNM.out.mono ?_
      rintro e w3 ⟨rfl, hx3⟩
      clear d0 d1 d2 t0 t1 t2
      -- memory has been made
      replace HX := Lib.hid (HX.out.trans hx3)
      replace H0 := Lib.hid (H0.out.ext hx3)
      replace H1 := Lib.hid (H1.out.ext hx3)
      try replace H2 := Lib.hid (H2.out.ext hx3)
      try replace H3 := Lib.hid (H3.out.ext hx3)
      try replace HS4 := Lib.hid (Strs.ext HS4.out hx3)
      try replace HOA := Lib.hid (own_ext HOA.out hx3)
      try replace HOR := Lib.hid (own_ext HOR.out hx3)
      try replace HOH := Lib.hid (own_ext HOH.out hx3)
      clear hx3
      go_upto_region 6 with fail
      have hwr := wrongQ (p := p) (HTQ.out.ext HX.out) (by omega) c false
      have HWR := Lib.hid hwr
      clear hwr
      apply wp_region_lit
      -- a load of a whole row: y0 block, H0.out fact RowAt, colanderref16.State the type's name
      refine plain_load rfl _ _ rfl y0 rfl _ _ (H0.out) Try.underlying70 rfl (by kernel_rfl) ?_
      go_simp
      -- a call in a plain region: refine HWR.out.mono ?_; rintro e w4 ⟨rfl, hx4⟩ the contract taken, and its results named
      refine wpList_plain rfl fun K1 hK1 => ?_
      go_simp
      refine HWR.out.mono ?_; rintro e w4 ⟨rfl, hx4⟩
      go_simp
      refine hK1 _ _ ?_
      clear hK1 K1
      -- memory has been made
      replace HX := Lib.hid (HX.out.trans hx4)
      replace H0 := Lib.hid (H0.out.ext hx4)
      replace H1 := Lib.hid (H1.out.ext hx4)
      try replace H2 := Lib.hid (H2.out.ext hx4)
      try replace H3 := Lib.hid (H3.out.ext hx4)
      try replace HS4 := Lib.hid (Strs.ext HS4.out hx4)
      try replace HOA := Lib.hid (own_ext HOA.out hx4)
      try replace HOR := Lib.hid (own_ext HOR.out hx4)
      try replace HOH := Lib.hid (own_ext HOH.out hx4)
      clear hx4
      refine plain_store rfl _ _ _ rfl y1 (stL c (.slice a ts.length k) p true) rfl rfl (H1.out) (by kernel_rfl) rfl (stL_one c _ _ _ _ _) ?_
      go_simp
      replace HX := Lib.hid (show Ext w (w4.setRow y1 (stL c (.slice a ts.length k) p true).toArray) from below_setRow HX.out (by have := HN.out; omega) _)
      try replace HOA := Lib.hid (own_turn HOA.out H1.out (by decide) (setRow_grown w4 y1 (stL c (.slice a ts.length k) p true).toArray))
      try replace HOR := Lib.hid (own_turn HOR.out H1.out (by decide) (setRow_grown w4 y1 (stL c (.slice a ts.length k) p true).toArray))
      try replace HOH := Lib.hid (own_turn HOH.out H1.out (by decide) (setRow_grown w4 y1 (stL c (.slice a ts.length k) p true).toArray))
      replace H1 := Lib.hid (H1.out.setRow (stL c (.slice a ts.length k) p true))
      clear H0
      generalize w4.setRow y1 (stL c (.slice a ts.length k) p true).toArray = w5 at *
      refine wpList_plain rfl fun K1 hK1 => ?_
      go_simp
      refine hK1 _ _ ?_
      clear hK1 K1
      apply wpList_nil
      go_wp2_with fail
      exact bodyPost_ret (results_row1 rfl rfl H1.out Try.underlying70 rfl (by kernel_rfl)) rfl ⟨rfl, HX.out⟩
    | some n =>
      have hn0 := hnn n hc
      rw [hc] at hnm hf
      dsimp only at hf hnm
      cases hf
      have HNM := Lib.hid hnm
      clear hnm hc hnn
      have hng : ¬ qn < 0 := by omega
      go_wp2_with fail
      refine HNM.out.mono ?_
      rintro e w3 ⟨rfl, hx3⟩
      clear d0 d1 d2 t0 t1 t2
      -- memory has been made
      replace HX := Lib.hid (HX.out.trans hx3)
      replace H0 := Lib.hid (H0.out.ext hx3)
      replace H1 := Lib.hid (H1.out.ext hx3)
      try replace H2 := Lib.hid (H2.out.ext hx3)
      try replace H3 := Lib.hid (H3.out.ext hx3)
      try replace HS4 := Lib.hid (Strs.ext HS4.out hx3)
      try replace HOA := Lib.hid (own_ext HOA.out hx3)
      try replace HOR := Lib.hid (own_ext HOR.out hx3)
      try replace HOH := Lib.hid (own_ext HOH.out hx3)
      clear hx3
      go_upto_region 7 with fail
      apply wp_region_lit
      -- a load of a whole row: y0 block, H0.out fact RowAt, colanderref16.State the type's name
      refine plain_load rfl _ _ rfl y0 rfl _ _ (H0.out) Try.underlying70 rfl (by kernel_rfl) ?_
      go_simp
      refine wpList_plain rfl fun K1 hK1 => ?_
      go_simp
      refine hK1 _ _ ?_
      clear hK1 K1
      refine plain_store rfl _ _ _ rfl y1 (stL c (.slice a ts.length k) (p + 1) false) rfl rfl (H1.out) (by kernel_rfl) rfl (stL_one c _ _ _ _ _) ?_
      go_simp
      replace HX := Lib.hid (show Ext w (w3.setRow y1 (stL c (.slice a ts.length k) (p + 1) false).toArray) from below_setRow HX.out (by have := HN.out; omega) _)
      try replace HOA := Lib.hid (own_turn HOA.out H1.out (by decide) (setRow_grown w3 y1 (stL c (.slice a ts.length k) (p + 1) false).toArray))
      try replace HOR := Lib.hid (own_turn HOR.out H1.out (by decide) (setRow_grown w3 y1 (stL c (.slice a ts.length k) (p + 1) false).toArray))
      try replace HOH := Lib.hid (own_turn HOH.out H1.out (by decide) (setRow_grown w3 y1 (stL c (.slice a ts.length k) (p + 1) false).toArray))
      replace H1 := Lib.hid (H1.out.setRow (stL c (.slice a ts.length k) (p + 1) false))
      clear H0
      generalize w3.setRow y1 (stL c (.slice a ts.length k) (p + 1) false).toArray = w5 at *
      refine wpList_plain rfl fun K1 hK1 => ?_
      go_simp
      refine hK1 _ _ ?_
      clear hK1 K1
      apply wpList_nil
      go_wp2_with fail
      exact bodyPost_ret (results_row1 rfl rfl H1.out Try.underlying70 rfl (by kernel_rfl)) rfl ⟨rfl, HX.out⟩
end Go.Proofs.Ytngnplghjaojhaa

/- The document's state: a variable that is none of some. -/
namespace Go.Proofs.Ytngnplghjaojhaa
set_option maxRecDepth 100000
set_option maxHeartbeats 2000000
set_option linter.unusedSimpArgs false
open Go.RowKit Go.Shelf Go.Sort
attribute [local go_sem] Oper.semAt_some wide_fn wide_depth
set_option linter.unusedVariables false

theorem updB_map {m : Nat → Nat} (hm : ∀ i j, m i = m j → i = j) (S : Nat → Bool) (k : Nat) : (fun i => updB S (m k) (m i)) = updB (fun i => S (m i)) k := by
  funext i
  by_cases h : i = k
  · subst h; rw [updB_at, updB_at]
  · rw [updB_ne _ (fun e => h (hm _ _ e)), updB_ne _ h]
theorem updB_not {m : Nat → Nat} {S : Nat → Bool} {j : Nat} (h : ∀ i, m i ≠ j) : (fun i => updB S j (m i)) = fun i => S (m i) := by
  funext i
  exact updB_ne _ (h i)
/-- A row of another kind is written meanwhile. -/
theorem AppF.row {w0 : World} {e : TypeId} {sz n : Nat} {xs ys : List Value} {v px nm : Value} {S : Nat → Bool} {u0 u1 u2 u3 u4 u5 u6 u7 : Value} {W : World} (h : AppF w0 e sz n xs ys v px nm S u0 u1 u2 u3 u4 u5 u6 u7 W)
    {y : Nat} {t : TypeId} {old : List Value} (hr : RowAt W y t old) (hy : w0.heap.size ≤ y) (ht : e ≠ t) (cs : Array Value) : AppF w0 e sz n xs ys v px nm S u0 u1 u2 u3 u4 u5 u6 u7 (W.setRow y cs) :=
  ⟨below_setRow h.ext hy _, fun a b => own_turn (h.a0 a b) hr ht (setRow_grown W y cs), h.a1, fun a b => own_turn (h.a2 a b) hr ht (setRow_grown W y cs), h.a3, h.a4, fun a b => own_turn (h.a5 a b) hr ht (setRow_grown W y cs), h.ne,
    fun a => own_turn (h.a6 a) hr ht (setRow_grown W y cs), fun a => own_turn (h.a7 a) hr ht (setRow_grown W y cs), h.d2, h.d6, h.d7⟩
theorem RowAt.ownS {w w' : World} {B size n g : Nat} {ty t : TypeId} {v : Value} {xs ys : List Value} (hr : RowAt w g t ys) (h : w.ownsRow B ty size v n xs) (hne : ty ≠ t) (hg : w.grownBy w' v.ownBlock) : RowAt w' g t ys := hr.kept hg (fun e => own_ne_row h hr hne g e rfl)
def mV : Nat → Nat
  | 0 => 1 | 1 => 2 | 2 => 3 | 3 => 0 | 4 => 4 | 5 => 5 | 6 => 6 | 7 => 8 | i + 8 => i + 20
def nV : Nat → Nat
  | 0 => 3 | 1 => 0 | 2 => 1 | 3 => 2 | 4 => 4 | 5 => 5 | 6 => 6 | 7 => 0 | 8 => 7 | k + 9 => k - 3
theorem nV_mV (i : Nat) : nV (mV i) = i := by
  match i with
  | 0 => rfl | 1 => rfl | 2 => rfl | 3 => rfl | 4 => rfl | 5 => rfl | 6 => rfl | 7 => rfl
  | i + 8 => show i + 20 - 9 - 3 = i + 8; omega
theorem mV_inj (i j : Nat) (h : mV i = mV j) : i = j := by rw [← nV_mV i, h, nV_mV]
theorem mV_7 (i : Nat) : mV i ≠ 7 := by
  intro h
  have h2 := nV_mV i
  rw [h] at h2
  have h3 : i = 0 := h2.symm
  subst h3
  cases h
def depV : Nat → List Nat
  | 3 => [1, 2]
  | 5 => [4]
  | 6 => [3, 5]
  | 7 => [0]
  | 8 => [6]
  | _ => []
/-- What stands while a name is put behind others and the state is handed on. -/
structure VarF (w : World) (y0 y1 : Nat) (L Z : List Value) (T : List ByteArray) (nm : ByteArray) (v : Value) (S : Nat → Bool) (u0 u1 u2 u3 u4 u5 u6 u7 : Value) (W : World) : Prop where
  app : AppF w 9 1 T.length (T.map Value.string) [.string nm] v (.agg L.toArray) (.string nm) (fun i => S (mV i)) u0 u1 u2 u3 u4 u5 u6 u7 W
  r0 : RowAt W y0 70 L
  r1 : RowAt W y1 70 (if S 7 = true then L else Z)
def VarG (w : World) (y0 y1 : Nat) (L Z : List Value) (T : List ByteArray) (nm : ByteArray) (v : Value) (S : Nat → Bool) (us : List Value) (W : World) : Prop :=
  ∃ u0 u1 u2 u3 u4 u5 u6 u7, us = [u0, u1, u2, u3, u4, u5, u6, u7] ∧ VarF w y0 y1 L Z T nm v S u0 u1 u2 u3 u4 u5 u6 u7 W
section
variable {w : World} {y0 y1 : Nat} {L Z : List Value} {T : List ByteArray} {nm : ByteArray} {v : Value} {S : Nat → Bool} {u0 u1 u2 u3 u4 u5 u6 u7 : Value} {W W' : World}
theorem VarG.of {us : List Value} {k : Nat} (h : AppG w 9 1 T.length (T.map Value.string) [.string nm] v (.agg L.toArray) (.string nm) (updB (fun i => S (mV i)) k) us W') (hk : mV k ≠ 7)
    (r0 : RowAt W' y0 70 L) (r1 : RowAt W' y1 70 (if S 7 = true then L else Z)) : VarG w y0 y1 L Z T nm v (updB S (mV k)) us W' := by
  obtain ⟨u0, u1, u2, u3, u4, u5, u6, u7, e, h⟩ := h
  rw [← updB_map mV_inj] at h
  exact ⟨u0, u1, u2, u3, u4, u5, u6, u7, e, h, r0, by rw [updB_ne S (Ne.symm hk)]; exact r1⟩
theorem VarG.start {us : List Value} (hl : us.length = 8) (hx : Ext w W) (r0 : RowAt W y0 70 L) (r1 : RowAt W y1 70 Z) : VarG w y0 y1 L Z T nm v (fun _ => false) us W := by
  obtain ⟨u0, u1, u2, u3, u4, u5, u6, u7, e, h⟩ := AppG.start (e := 9) (sz := 1) (n := T.length) (xs := T.map Value.string) (ys := [.string nm]) (v := v) (px := .agg L.toArray) (nm := .string nm) hl hx
  exact ⟨u0, u1, u2, u3, u4, u5, u6, u7, e, h, r0, r1⟩
theorem VarF.store (h : VarF w y0 y1 L Z T nm v S u0 u1 u2 u3 u4 u5 u6 u7 W) (hy : w.heap.size ≤ y1) (hne : y0 ≠ y1) : VarG w y0 y1 L Z T nm v (updB S 7) [u0, u1, u2, u3, u4, u5, u6, u7] (W.setRow y1 L.toArray) := by
  refine ⟨u0, u1, u2, u3, u4, u5, u6, u7, rfl, ?_, row_far h.r0 _ hne, ?_⟩
  · rw [updB_not mV_7]
    exact h.app.row h.r1 hy (by decide) _
  · rw [updB_at, if_pos rfl]
    exact h.r1.setRow L
end
end Go.Proofs.Ytngnplghjaojhaa
