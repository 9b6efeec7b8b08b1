/- The document's state: what is told: the walk (under way). -/
import Derived.Test.YtngnplghjaojhaaGp34
namespace Go.Proofs.Ytngnplghjaojhaa
set_option maxRecDepth 100000
set_option maxHeartbeats 2000000
set_option linter.unusedSimpArgs false
open Go.RowKit Go.Shelf Go.Sort
attribute [local go_sem] Oper.semAt_some wide_fn wide_depth
set_option linter.unusedVariables false
structure TdI (w : World) (ts : List Tk) (a : Option Addr) (k B y0 y1 : Nat) (A : List Atm) (R H : List ByteArray) (c : Sc) (p : Nat) (bad : Bool) (W : World) : Prop where
  ext : Ext w W
  r0 : RowAt W y0 70 (stL c (.slice a ts.length k) p bad)
  r1 : RowAt W y1 70 [.slice none 0 0, .int .i64 0, .bool false, .slice none 0 0, .slice none 0 0, .bool false, .bool false, .bool false, .int .i64 0, .int .i64 0, .slice none 0 0, .int .i64 0]
  oa : W.ownsRow B 64 7 (.slice c.a1 c.n1 c.k1) A.length (A.flatMap atCells)
  ort : W.ownsRow B 9 1 (.slice c.a2 c.n2 c.k2) R.length (R.map Value.string)
  oh : W.ownsRow B 9 1 (.slice c.a3 c.n3 c.k3) H.length (H.map Value.string)
/-- The cells that say of counting and of pages. -/
def Fx (c c1 : Sc) : Prop := c1.cn = c.cn ∧ c1.ds = c.ds ∧ c1.lm = c.lm ∧ c1.li = c.li ∧ c1.off = c.off
theorem varF_good {ts : List Tk} {V L : List ByteArray} {p : Nat} {bad : Bool} (h : (varF ts V L p bad).2.1 = false) : (varF ts V L p bad).2.2.length = L.length + 1 := by
  unfold varF at h ⊢
  split
  · rename_i hh; rw [if_pos hh] at h; cases h
  · simp
theorem saysR_P (ts : List Tk) (p : Nat) (word : ByteArray) : saysR ts p false word = saysP ts word p := by simp [saysR, saysP]
theorem varF_ge {ts : List Tk} (V L : List ByteArray) (p : Nat) (bad : Bool) : p ≤ (varF ts V L p bad).1 := by
  unfold varF
  split
  · exact Nat.le_refl _
  · unfold takeR; split <;> simp
theorem saysR_yes {ts : List Tk} {p : Nat} {bad : Bool} {word : ByteArray} (h : saysR ts p bad word = true) : bad = false ∧ kindAt ts p = 1 ∧ saysP ts word p = true := by
  have hb : bad = false := by cases bad with | false => rfl | true => simp [saysR] at h
  subst hb
  refine ⟨rfl, ?_, ?_⟩
  · unfold saysR at h; simp at h; exact h.1
  · rw [← saysR_P]; exact h
/-- In the loop behind 'hint'. -/
def HiI (w : World) (ts : List Tk) (a : Option Addr) (k B y0 y1 : Nat) (A : List Atm) (R V : List ByteArray) (c : Sc) (p j : Nat) (W : World) : Prop := ∃ c3 q qb H, TdI w ts a k B y0 y1 A R H c3 q qb W ∧ Fx c c3 ∧ q ≤ ts.length ∧ H.length ≤ j ∧
  hintP ts V V.length [] (p + 1) = hintC ts V (V.length - j) H q qb
/-- Behind 'hint'. -/
def HiO (w : World) (ts : List Tk) (a : Option Addr) (k B y0 y1 : Nat) (A : List Atm) (R V : List ByteArray) (c : Sc) (p : Nat) (bad : Bool) (W : World) : Prop := ∃ c3 q qb H, TdI w ts a k B y0 y1 A R H c3 q qb W ∧ Fx c c3 ∧ q ≤ ts.length ∧ (bad = true → q = p ∧ qb = true) ∧
  (bad = false → toldHint ts V p = if qb = true then .error q else .ok (H, q))
/-- Behind what is told of a limit. -/
def LmO (w : World) (ts : List Tk) (a : Option Addr) (k B y0 y1 : Nat) (A : List Atm) (R : List ByteArray) (c1 : Sc) (p : Nat) (bad : Bool) (W : World) : Prop := ∃ c2 q qb, TdI w ts a k B y0 y1 A R [] c2 q qb W ∧ (c2.cn = c1.cn ∧ c2.ds = c1.ds ∧ c2.off = c1.off) ∧ q ≤ ts.length ∧ (bad = true → q = p ∧ qb = true) ∧
  (bad = false → (if saysP ts wLimit p = true then (numP ts (p + 1)).bind fun (n, p) => .ok (true, n, p) else .ok (false, 0, p)) = (if qb = true then .error q else .ok (c2.lm, c2.li, q) : Except Nat (Bool × Int × Nat)))
theorem page_no {ts : List Tk} {p : Nat} (hc : saysP ts wCount p = false) {l : Bool} {n : Int} {q : Nat} {qb : Bool}
    (h1 : (if saysP ts wLimit p = true then (numP ts (p + 1)).bind fun (n, p) => .ok (true, n, p) else .ok (false, 0, p)) = (if qb = true then .error q else .ok (l, n, q) : Except Nat (Bool × Int × Nat)))
    {q2 : Nat} {qb2 : Bool} {m : Int} (hb : qb = true → q2 = q ∧ qb2 = true)
    (h2 : qb = false → (if saysP ts wOffset q = true then (numP ts (q + 1)).bind fun (m, p) => .ok (m, p) else .ok (0, q)) = (if qb2 = true then .error q2 else .ok (m, q2) : Except Nat (Int × Nat))) :
    toldPage ts p = if qb2 = true then .error q2 else .ok ((false, false, l, n, m), q2) := by
  unfold toldPage
  rw [if_neg (by rw [hc]; decide), h1]
  cases qb with
  | true => obtain ⟨rfl, rfl⟩ := hb rfl; rfl
  | false =>
    have h3 := h2 rfl
    simp only [Except.bind, Bool.false_eq_true, if_false] at h3 ⊢
    rw [h3]
    cases qb2 <;> rfl
/-- Behind what is told of counting and of pages. -/
def PgO (w : World) (ts : List Tk) (a : Option Addr) (k B y0 y1 : Nat) (A : List Atm) (R : List ByteArray) (p : Nat) (bad : Bool) (W : World) : Prop := ∃ c2 q qb, TdI w ts a k B y0 y1 A R [] c2 q qb W ∧ q ≤ ts.length ∧ (bad = true → q = p ∧ qb = true) ∧
  (bad = false → toldPage ts p = if qb = true then .error q else .ok ((c2.cn, c2.ds, c2.lm, c2.li, c2.off), q))
theorem retC_bad (ts : List Tk) (V R : List ByteArray) (k q : Nat) : retC ts V k R q true = .error q := by unfold retC; rw [if_pos rfl]
/-- At the head of the loop behind 'return'. -/
def RetI (w : World) (ts : List Tk) (a : Option Addr) (k B y0 y1 : Nat) (A : List Atm) (V : List ByteArray) (c : Sc) (p q : Nat) (W : World) : Prop := ∃ c1 qb R, TdI w ts a k B y0 y1 A R [] c1 q qb W ∧ Fx c c1 ∧ q ≤ ts.length ∧ R.length ≤ V.length + 1 ∧ (qb = false → R.length ≤ V.length) ∧
  retP ts V V.length [] (p + 1) = retC ts V (V.length - R.length) R q qb
/-- Behind 'return'. -/
def RetO (w : World) (ts : List Tk) (a : Option Addr) (k B y0 y1 : Nat) (A : List Atm) (V : List ByteArray) (c : Sc) (p : Nat) (bad : Bool) (W : World) : Prop := ∃ c1 q qb R, TdI w ts a k B y0 y1 A R [] c1 q qb W ∧ Fx c c1 ∧ q ≤ ts.length ∧ R.length ≤ V.length + 1 ∧ (bad = true → q = p ∧ qb = true) ∧
  (bad = false → toldRet ts V p = if qb = true then .error q else .ok (R, q))
set_option maxRecDepth 100000 in
set_option maxHeartbeats 8000000 in
theorem toldS_any {ts : List Tk} {a : Option Addr} {k : Nat} (w : World) (B : Nat) (c : Sc) (p : Nat) (bad : Bool) (A : List Atm) (h : TkQ w ts a k) (hp : p ≤ ts.length) (hz : c.cn = false ∧ c.ds = false ∧ c.lm = false ∧ c.li = 0 ∧ c.off = 0)
    (hA : w.ownsRow B 64 7 (.slice c.a1 c.n1 c.k1) A.length (A.flatMap atCells)) (hR : w.ownsRow B 9 1 (.slice c.a2 c.n2 c.k2) 0 []) (hH : w.ownsRow B 9 1 (.slice c.a3 c.n3 c.k3) 0 []) (hB : B ≤ w.heap.size) (hAl : A.length ≤ 100) (hvl : (varsS A).length ≤ 1000) :
  Calls Try.prog 31 #[.agg (stL c (.slice a ts.length k) p bad).toArray] w fun e w' => ∃ c' q qb P,
    e = .returned (.agg (stL c' (.slice a ts.length k) q qb).toArray) ∧ PatC w' B c' P ∧ q ≤ ts.length ∧ (bad = true → q = p ∧ qb = true) ∧
      (bad = false → (varsS A).length ≤ 32 → toldP ts ⟨p, A, varsS A⟩ = if qb = true then .error q else .ok (P, q)) ∧ Ext w w' := by
  have hmo : Try.prog.follows .mixedOrders = true := by kernel_rfl
  have HTQ := Lib.hid h
  have HPP := Lib.hid hp
  have HZ := Lib.hid hz
  have HBB := Lib.hid hB
  have HAL := Lib.hid hAl
  have HVL := Lib.hid hvl
  have HA0 := Lib.hid hA
  have HR0 := Lib.hid hR
  have HH0 := Lib.hid hH
  clear h hp hz hA hR hH hB hAl hvl
  -- a function over a state: colander/colanderref16.told its name, c the state's cells c, p place, bad bad
  -- a function with two boxes at its head: colander/colanderref16.told its name, stL c (.slice a ts.length k) p bad [.slice none 0 0, .int .i64 0, .bool false, .slice none 0 0, .slice none 0 0, .bool false, .bool false, .bool false, .int .i64 0, .int .i64 0, .slice none 0 0, .int .i64 0] their cells (lists), colanderref16.State colanderref16.State their types' names
  have hbx := boxes2 w (stL c (.slice a ts.length k) p bad) 70 ([.slice none 0 0, .int .i64 0, .bool false, .slice none 0 0, .slice none 0 0, .bool false, .bool false, .bool false, .int .i64 0, .int .i64 0, .slice none 0 0, .int .i64 0]) 70
  have HBX := Lib.hid hbx
  clear hbx
  go_enter Try.func31, Try.ntmps31
  go_upto_region 1 with fail
  generalize (w.alloc (.cells (stL c (.slice a ts.length k) p bad).toArray 70)).alloc (.cells ([.slice none 0 0, .int .i64 0, .bool false, .slice none 0 0, .slice none 0 0, .bool false, .bool false, .bool false, .int .i64 0, .int .i64 0, .slice none 0 0, .int .i64 0]).toArray 70) = w1 at *
  obtain ⟨y0, hy0⟩ : ∃ x, w.heap.size = x := ⟨_, rfl⟩
  obtain ⟨y1, hy1⟩ : ∃ x, y0 + 1 = x := ⟨_, rfl⟩
  rw [hy0, hy1] at HBX
  simp only [hy0, hy1]
  have HN := Lib.hid (show w.heap.size = y0 ∧ y0 + 1 = y1 from ⟨hy0, hy1⟩)
  have HX := Lib.hid HBX.out.1
  have H0 := Lib.hid HBX.out.2.1
  have H1 := Lib.hid HBX.out.2.2
  clear hy0 hy1 HBX
  have HOA := Lib.hid (own_ext HA0.out HX.out)
  have HOR := Lib.hid (show w1.ownsRow B 9 1 (.slice c.a2 c.n2 c.k2) ([] : List ByteArray).length (([] : List ByteArray).map Value.string) from own_ext HR0.out HX.out)
  have HOH := Lib.hid (show w1.ownsRow B 9 1 (.slice c.a3 c.n3 c.k3) ([] : List ByteArray).length (([] : List ByteArray).map Value.string) from own_ext HH0.out HX.out)
  clear HA0 HR0 HH0
  have d3 := H0.out.cell (i := 3) rfl
  have HVS := Lib.hid (varsS_any _ A w1 (Sl.of_own HOA.out) (by have := HAL.out; omega))
  go_wp2_with fail
  refine HVS.out.mono ?_
  rintro e w2 ⟨vv, rfl, hvv, hx2⟩
  obtain ⟨va, vc, rfl, hc1, hc2⟩ := Sl.shape hvv
  clear d3 HVS hvv
  -- memory has been made
  replace HX := Lib.hid (HX.out.trans hx2)
  replace H0 := Lib.hid (H0.out.ext hx2)
  replace H1 := Lib.hid (H1.out.ext hx2)
  try replace H2 := Lib.hid (H2.out.ext hx2)
  try replace H3 := Lib.hid (H3.out.ext hx2)
  try replace HS4 := Lib.hid (Strs.ext HS4.out hx2)
  try replace HOA := Lib.hid (own_ext HOA.out hx2)
  try replace HOR := Lib.hid (own_ext HOR.out hx2)
  try replace HOH := Lib.hid (own_ext HOH.out hx2)
  clear hx2
  obtain ⟨V, hV⟩ : ∃ V, varsS A = V := ⟨_, rfl⟩
  simp only [hV]
  have HV := Lib.hid hV
  have HVL2 := Lib.hid (show V.length ≤ 1000 by rw [← hV]; exact HVL.out)
  rw [hV] at hc1
  clear hV HVL
  obtain ⟨C1, hC1⟩ : ∃ b, (saysR ts p bad wReturn && decide (0 < V.length)) = b := ⟨_, rfl⟩
  have HC1 := Lib.hid hC1
  clear hC1
  go_upto_region 2 with fail
  go_cut [14] (fun s14 wx => s14 = .bool C1 ∧ Ext w2 wx)
  case first =>
    have hsy := saysQ (HTQ.out.ext HX.out) HPP.out c bad wReturn
    obtain ⟨sb, hsb⟩ : ∃ b, saysR ts p bad wReturn = b := ⟨_, rfl⟩
    rw [hsb] at hsy
    have HSY := Lib.hid hsy
    have HSB := Lib.hid hsb
    clear hsy hsb
    obtain ⟨f0, f1, f2, f3, f4, f5, f6, f7, f8, f9, f10, f11⟩ := stQ_facts H0.out
    go_wp2_with fail
    refine HSY.out.mono ?_
    rintro e w3 ⟨rfl, hx3⟩
    have HX3 := Lib.hid hx3
    clear f0 f1 f2 f3 f4 f5 f6 f7 f8 f9 f10 f11
    clear hx3
    have hc := HC1.out
    rw [HSB.out] at hc
    cases sb with
    | false =>
      rw [Bool.false_and] at hc
      subst hc
      go_wp2_with fail
      go_meet
      exact ⟨rfl, HX3.out⟩
    | true =>
      rw [Bool.true_and] at hc
      subst hc
      go_wp2_with fail
      go_meet
      exact ⟨congrArg Value.bool (by simp), HX3.out⟩
  case rest =>
    obtain ⟨rfl, hxc⟩ := hcut
    obtain ⟨w3, rfl⟩ : ∃ z, z = wc := ⟨_, rfl⟩
    -- memory has been made
    replace HX := Lib.hid (HX.out.trans hxc)
    replace H0 := Lib.hid (H0.out.ext hxc)
    replace H1 := Lib.hid (H1.out.ext hxc)
    try replace H2 := Lib.hid (H2.out.ext hxc)
    try replace H3 := Lib.hid (H3.out.ext hxc)
    try replace HS4 := Lib.hid (Strs.ext HS4.out hxc)
    try replace HOA := Lib.hid (own_ext HOA.out hxc)
    try replace HOR := Lib.hid (own_ext HOR.out hxc)
    try replace HOH := Lib.hid (own_ext HOH.out hxc)
    clear hxc
    go_upto_if 14 with fail
    go_cut [14] (fun s14 wx => RetO w ts a k B y0 y1 A V c p bad wx)
    case first =>
      cases C1 with
      | false =>
        have HTR : Hid (bad = false → toldRet ts V p = .ok ([], p)) := Lib.hid (fun hb => by
          have h := HC1.out
          rw [hb, saysR_P] at h
          unfold toldRet
          rw [if_neg]
          rintro ⟨h1, h2⟩
          rw [h2, Bool.true_and, decide_eq_false_iff_not] at h
          exact h (List.length_pos_iff.2 h1))
        go_wp2_with fail
        go_meet
        exact ⟨c, p, bad, [], ⟨HX.out, H0.out, H1.out, HOA.out, HOR.out, HOH.out⟩, ⟨rfl, rfl, rfl, rfl, rfl⟩, HPP.out, by simp, fun e => ⟨rfl, e⟩, fun e => by subst e; rw [HTR.out rfl]; rfl⟩
      | true =>
        have hsp : bad = false ∧ kindAt ts p = 1 ∧ 0 < V.length ∧ toldRet ts V p = retP ts V V.length [] (p + 1) := by
          have h := HC1.out
          rw [Bool.and_eq_true] at h
          obtain ⟨h1, h2⟩ := h
          have hv := of_decide_eq_true h2
          have hb : bad = false := by cases bad with | false => rfl | true => simp [saysR] at h1
          subst hb
          have hk : kindAt ts p = 1 := by unfold saysR at h1; simp at h1; exact h1.1
          rw [saysR_P] at h1
          refine ⟨rfl, hk, hv, ?_⟩
          unfold toldRet
          rw [if_pos ⟨List.length_pos_iff.1 hv, h1⟩]
        have HSP := Lib.hid hsp
        clear hsp
        go_upto_region 3 with fail
        -- the document's state in box y0 is handed to take, and what comes is put back (the region's operations up to the store): c the state's cells c, p place, bad bad, 1 kind, HPP.out place within, p1 new place, b1 new bad, x1 the text, w4 world behind. Facts: HTQ, HX, H0, H1, HN
        have htk := takeQ (HTQ.out.ext HX.out) (HPP.out) c bad 1 (by decide)
        obtain ⟨⟨p1, b1, x1⟩, hr⟩ : ∃ r, takeR ts 1 p bad = r := ⟨_, rfl⟩
        rw [hr] at htk
        dsimp only at htk
        have HTK := Lib.hid htk
        have HRp1 := Lib.hid hr
        have HPp1 := Lib.hid (show p1 ≤ ts.length by have h := takeR_le (ts := ts) (HPP.out) (q := 1) (by decide) bad; rw [hr] at h; exact h)
        clear htk hr
        apply wp_region_lit
        -- a load of a whole row: y0 block, H0.out fact RowAt, colanderref16.State the type's name
        refine plain_load rfl _ _ rfl y0 rfl _ _ (H0.out) Try.underlying70 rfl (by kernel_rfl) ?_
        go_simp
        -- a call in a plain region: refine HTK.out.mono ?_; rintro e wt ⟨rfl, hxt⟩ the contract taken, and its results named
        refine wpList_plain rfl fun K1 hK1 => ?_
        go_simp
        refine HTK.out.mono ?_; rintro e wt ⟨rfl, hxt⟩
        go_simp
        refine hK1 _ _ ?_
        clear hK1 K1
        -- memory has been made
        replace HX := Lib.hid (HX.out.trans hxt)
        replace H0 := Lib.hid (H0.out.ext hxt)
        replace H1 := Lib.hid (H1.out.ext hxt)
        try replace H2 := Lib.hid (H2.out.ext hxt)
        try replace H3 := Lib.hid (H3.out.ext hxt)
        try replace HS4 := Lib.hid (Strs.ext HS4.out hxt)
        try replace HOA := Lib.hid (own_ext HOA.out hxt)
        try replace HOR := Lib.hid (own_ext HOR.out hxt)
        try replace HOH := Lib.hid (own_ext HOH.out hxt)
        clear hxt
        refine wpList_plain rfl fun K1 hK1 => ?_
        go_simp
        refine hK1 _ _ ?_
        clear hK1 K1
        refine wpList_plain rfl fun K1 hK1 => ?_
        go_simp
        refine hK1 _ _ ?_
        clear hK1 K1
        refine wpList_plain rfl fun K1 hK1 => ?_
        go_simp
        refine hK1 _ _ ?_
        clear hK1 K1
        -- a state's row is put into box y0: (c) cells, p1 place, b1 bad, wt world, w4 world behind
        refine plain_store rfl _ _ _ rfl y0 (stL (c) (.slice a ts.length k) p1 b1) rfl rfl (H0.out) (by kernel_rfl) rfl (stL_one (c) _ _ _ _ _) ?_
        go_simp
        replace HX := Lib.hid (show Ext w (wt.setRow y0 (stL (c) (.slice a ts.length k) p1 b1).toArray) from below_setRow HX.out (by have := HN.out; omega) _)
        replace H1 := Lib.hid (row_far H1.out (stL (c) (.slice a ts.length k) p1 b1).toArray (show y1 ≠ y0 by have := HN.out; omega))
        try replace HOA := Lib.hid (own_turn HOA.out H0.out (by decide) (setRow_grown wt y0 (stL (c) (.slice a ts.length k) p1 b1).toArray))
        try replace HOR := Lib.hid (own_turn HOR.out H0.out (by decide) (setRow_grown wt y0 (stL (c) (.slice a ts.length k) p1 b1).toArray))
        try replace HOH := Lib.hid (own_turn HOH.out H0.out (by decide) (setRow_grown wt y0 (stL (c) (.slice a ts.length k) p1 b1).toArray))
        replace H0 := Lib.hid (H0.out.setRow (stL (c) (.slice a ts.length k) p1 b1))
        try replace H2 := Lib.hid (row_far H2.out (stL (c) (.slice a ts.length k) p1 b1).toArray (show y2 ≠ y0 by have := HN.out; omega))
        try replace HS4 := Lib.hid (HF4.out.stay HS4.out (y := y0) (by have := HN.out; omega) (stL (c) (.slice a ts.length k) p1 b1).toArray)
        generalize wt.setRow y0 (stL (c) (.slice a ts.length k) p1 b1).toArray = w4 at *
        clear HTK
        apply wpList_nil
        have hg : p1 = p + 1 ∧ b1 = false := by
          have h := HRp1.out
          rw [HSP.out.1, takeR_ok HSP.out.2.1] at h
          cases h
          exact ⟨rfl, rfl⟩
        obtain ⟨rfl, rfl⟩ := hg
        have hvq := varQ (HTQ.out.ext HX.out) HPp1.out c A (Sl.of_own HOA.out) (by have := HAL.out; omega) (.slice none 0 0) [] B (World.ownsRow_nil _ _ _ _) (Nat.le_trans HBB.out HX.out.size) (by decide) false
        rw [HV.out] at hvq
        have hvl := varF_le V [] HPp1.out false
        have hst := retC_step ts V (V.length - 1) [] (p + 1)
        have hgd : (varF ts V [] (p + 1) false).2.1 = false → (varF ts V [] (p + 1) false).2.2.length = 1 := varF_good
        have hln := varF_len (ts := ts) V [] (p := p + 1) false
        obtain ⟨⟨q1, qb1, R1⟩, hq1⟩ : ∃ r, varF ts V [] (p + 1) false = r := ⟨_, rfl⟩
        rw [hq1] at hvq hvl hst hgd hln
        dsimp only at hvq hvl hst hgd hln
        have HVQ := Lib.hid hvq
        have HVL1 := Lib.hid hvl
        have HLN := Lib.hid hln
        have HGD := Lib.hid hgd
        have HST : Hid (retP ts V V.length [] (p + 1) = retC ts V (V.length - R1.length) R1 q1 qb1) := Lib.hid (by
          have hv := HSP.out.2.2.1
          rw [show V.length = V.length - 1 + 1 by omega, hst]
          cases hb : qb1 with
          | true => rw [retC_bad, retC_bad]
          | false => rw [hgd hb, show V.length - 1 + 1 = V.length by omega])
        clear hvq hvl hst hgd hln hq1
        go_upto_region 4 with fail
        apply wp_region_lit
        -- a load of a whole row: y0 block, H0.out fact RowAt, colanderref16.State the type's name
        refine plain_load rfl _ _ rfl y0 rfl _ _ (H0.out) Try.underlying70 rfl (by kernel_rfl) ?_
        go_simp
        -- a call in a plain region: refine HVQ.out.mono ?_; rintro e wt ⟨u, rfl, hu, hxt⟩; obtain ⟨ua, uc, rfl⟩ := own_vw hu the contract taken, and its results named
        refine wpList_plain rfl fun K1 hK1 => ?_
        go_simp
        refine HVQ.out.mono ?_; rintro e wt ⟨u, rfl, hu, hxt⟩; obtain ⟨ua, uc, rfl⟩ := own_vw hu
        go_simp
        refine hK1 _ _ ?_
        clear hK1 K1
        clear HOR
        -- memory has been made
        replace HX := Lib.hid (HX.out.trans hxt)
        replace H0 := Lib.hid (H0.out.ext hxt)
        replace H1 := Lib.hid (H1.out.ext hxt)
        try replace H2 := Lib.hid (H2.out.ext hxt)
        try replace H3 := Lib.hid (H3.out.ext hxt)
        try replace HS4 := Lib.hid (Strs.ext HS4.out hxt)
        try replace HOA := Lib.hid (own_ext HOA.out hxt)
        try replace HOR := Lib.hid (own_ext HOR.out hxt)
        try replace HOH := Lib.hid (own_ext HOH.out hxt)
        clear hxt
        have HOR := Lib.hid hu
        clear hu HVQ
        refine wpList_plain rfl fun K1 hK1 => ?_
        go_simp
        refine hK1 _ _ ?_
        clear hK1 K1
        refine wpList_plain rfl fun K1 hK1 => ?_
        go_simp
        refine hK1 _ _ ?_
        clear hK1 K1
        refine wpList_plain rfl fun K1 hK1 => ?_
        go_simp
        refine hK1 _ _ ?_
        clear hK1 K1
        -- a state's row is put into box y0: c cells, q1 place, qb1 bad, wt world, w5 world behind
        refine plain_store rfl _ _ _ rfl y0 (stL c (.slice a ts.length k) q1 qb1) rfl rfl (H0.out) (by kernel_rfl) rfl (stL_one c _ _ _ _ _) ?_
        go_simp
        replace HX := Lib.hid (show Ext w (wt.setRow y0 (stL c (.slice a ts.length k) q1 qb1).toArray) from below_setRow HX.out (by have := HN.out; omega) _)
        replace H1 := Lib.hid (row_far H1.out (stL c (.slice a ts.length k) q1 qb1).toArray (show y1 ≠ y0 by have := HN.out; omega))
        try replace HOA := Lib.hid (own_turn HOA.out H0.out (by decide) (setRow_grown wt y0 (stL c (.slice a ts.length k) q1 qb1).toArray))
        try replace HOR := Lib.hid (own_turn HOR.out H0.out (by decide) (setRow_grown wt y0 (stL c (.slice a ts.length k) q1 qb1).toArray))
        try replace HOH := Lib.hid (own_turn HOH.out H0.out (by decide) (setRow_grown wt y0 (stL c (.slice a ts.length k) q1 qb1).toArray))
        replace H0 := Lib.hid (H0.out.setRow (stL c (.slice a ts.length k) q1 qb1))
        try replace H2 := Lib.hid (row_far H2.out (stL c (.slice a ts.length k) q1 qb1).toArray (show y2 ≠ y0 by have := HN.out; omega))
        try replace HS4 := Lib.hid (HF4.out.stay HS4.out (y := y0) (by have := HN.out; omega) (stL c (.slice a ts.length k) q1 qb1).toArray)
        generalize wt.setRow y0 (stL c (.slice a ts.length k) q1 qb1).toArray = w5 at *
        have ff := H0.out.frozen 4
        have dd := H0.out.cell (i := 4) rfl
        refine wpList_plain rfl fun K1 hK1 => ?_
        go_simp
        refine hK1 _ _ ?_
        clear hK1 K1
        refine wpList_plain rfl fun K1 hK1 => ?_
        go_simp
        refine hK1 _ _ ?_
        clear hK1 K1
        refine wpList_plain rfl fun K1 hK1 => ?_
        go_simp
        refine hK1 _ _ ?_
        clear hK1 K1
        have hs := Lib.hid (show RowAt (w5.setCell ⟨y0, 4, none⟩ ((.slice ua R1.length uc))) y0 70 (stL { c with a2 := ua, n2 := R1.length, k2 := uc } (.slice a ts.length k) q1 qb1) from H0.out.set 4 ((.slice ua R1.length uc)))
        try replace HOA := Lib.hid (own_turn HOA.out H0.out (by decide) (grown_set w5 y0 4 ((.slice ua R1.length uc))))
        try replace HOR := Lib.hid (own_turn HOR.out H0.out (by decide) (grown_set w5 y0 4 ((.slice ua R1.length uc))))
        try replace HOH := Lib.hid (own_turn HOH.out H0.out (by decide) (grown_set w5 y0 4 ((.slice ua R1.length uc))))
        replace H1 := Lib.hid (row_setk H1.out (z := y0) (by have := HN.out; omega) 4 ((.slice ua R1.length uc)))
        replace HX := Lib.hid (show Ext w (w5.setCell ⟨y0, 4, none⟩ ((.slice ua R1.length uc))) from Ext.set_of HX.out (by have := HN.out; omega) _)
        clear ff dd H0
        have H0 := hs
        clear hs
        generalize w5.setCell ⟨y0, 4, none⟩ ((.slice ua R1.length uc)) = w6 at *
        apply wpList_nil
        go_wp2_with fail
        go_loopg [58] (ts.length + 1 - q1) (fun g s58 wr => ∃ q, g = ts.length + 1 - q ∧ RetI w ts a k B y0 y1 A V c p q wr)
        case atStart => exact ⟨q1, rfl, _, qb1, R1, ⟨HX.out, H0.out, H1.out, HOA.out, HOR.out, HOH.out⟩, ⟨rfl, rfl, rfl, rfl, rfl⟩, HVL1.out, by have := HLN.out; simp at this; omega, fun e => by have := HGD.out e; have := HSP.out.2.2.1; omega, HST.out⟩
        case round =>
          obtain ⟨q, hg, c1, qb, R, htd, hfx, hq, hRl, hgood, hret⟩ := hrel
          clear HX H0 H1 HOA HOR HOH HVL1 HLN HGD HST HPp1 HRp1
          have HX := Lib.hid (htd).ext
          have H0 := Lib.hid (htd).r0
          have H1 := Lib.hid (htd).r1
          have HOA := Lib.hid (htd).oa
          have HOR := Lib.hid (htd).ort
          have HOH := Lib.hid (htd).oh
          have HG := Lib.hid hg
          have HFX := Lib.hid hfx
          have HQ := Lib.hid hq
          have HRL := Lib.hid hRl
          have HGD := Lib.hid hgood
          have HRT := Lib.hid hret
          have HN2 := Lib.hid (show c1.n2 = R.length by
            obtain ⟨va', vc', e⟩ := own_vw htd.ort
            simp only [Value.slice.injEq] at e
            exact e.2.1)
          clear htd hg hfx hq hRl hgood hret
          obtain ⟨C2, hC2⟩ : ∃ b, (!qb && (decide (kindAt ts q = 6) && decide (R.length < V.length))) = b := ⟨_, rfl⟩
          have HC2 := Lib.hid hC2
          clear hC2
          go_upto_region 5 with fail
          go_cut [43] (fun s43 wx => s43 = .bool C2 ∧ Ext wr wx)
          case first =>
            cases qb with
            | true =>
              have hc := HC2.out
              rw [Bool.not_true, Bool.false_and] at hc
              subst hc
              have d2 := H0.out.cell (i := 2) rfl
              go_wp2_with fail
              go_meet
              exact ⟨rfl, Ext.refl _⟩
            | false =>
              have hc := HC2.out
              rw [Bool.not_false, Bool.true_and] at hc
              have HKQ := Lib.hid (kindQ (HTQ.out.ext HX.out) HQ.out c1 false)
              obtain ⟨f0, f1, f2, f3, f4, f5, f6, f7, f8, f9, f10, f11⟩ := stQ_facts H0.out
              by_cases h6 : kindAt ts q = 6
              · rw [decide_eq_true h6, Bool.true_and] at hc
                rw [h6] at HKQ
                have HC := Lib.hid hc
                clear h6 hc
                go_wp2_with fail
                refine HKQ.out.mono ?_
                rintro e wk ⟨rfl, hxk⟩
                clear f0 f1 f2 f3 f4 f5 f6 f7 f8 f9 f10 f11
                have g4 := (H0.out.ext hxk).cell (i := 4) rfl
                rw [HN2.out] at g4
                have HXK := Lib.hid hxk
                clear hxk
                go_wp2_with fail
                go_meet
                exact ⟨by rw [← HC.out], HXK.out⟩
              · rw [decide_eq_false h6, Bool.false_and] at hc
                subst hc
                obtain ⟨kk, hkk⟩ : ∃ kk, kindAt ts q = kk := ⟨_, rfl⟩
                rw [hkk] at HKQ h6
                have hk6 : (kk == 6) = false := by simpa using h6
                clear hkk h6
                go_wp2_with fail
                refine HKQ.out.mono ?_
                rintro e wk ⟨rfl, hxk⟩
                clear f0 f1 f2 f3 f4 f5 f6 f7 f8 f9 f10 f11
                have HXK := Lib.hid hxk
                clear hxk
                go_wp2_with fail
                go_meet
                exact ⟨rfl, HXK.out⟩
          case rest =>
            obtain ⟨rfl, hxc⟩ := hcut
            obtain ⟨w5, rfl⟩ : ∃ z, z = wc := ⟨_, rfl⟩
            -- memory has been made
            replace HX := Lib.hid (HX.out.trans hxc)
            replace H0 := Lib.hid (H0.out.ext hxc)
            replace H1 := Lib.hid (H1.out.ext hxc)
            try replace H2 := Lib.hid (H2.out.ext hxc)
            try replace H3 := Lib.hid (H3.out.ext hxc)
            try replace HS4 := Lib.hid (Strs.ext HS4.out hxc)
            try replace HOA := Lib.hid (own_ext HOA.out hxc)
            try replace HOR := Lib.hid (own_ext HOR.out hxc)
            try replace HOH := Lib.hid (own_ext HOH.out hxc)
            clear hxc
            cases C2 with
            | false =>
              go_wp2_with fail
              go_meet
              refine ⟨c1, q, qb, R, ⟨HX.out, H0.out, H1.out, HOA.out, HOR.out, HOH.out⟩, HFX.out, HQ.out, HRL.out, fun e => (by rw [HSP.out.1] at e; cases e), fun _ => ?_⟩
              rw [HSP.out.2.2.2, HRT.out]
              unfold retC
              cases hb : qb with
              | true => rfl
              | false =>
                have h := HC2.out
                rw [hb, Bool.not_false, Bool.true_and] at h
                have hl := HGD.out hb
                rw [if_neg (by decide), if_neg, if_neg (by decide)]
                rintro ⟨h1, h2⟩
                rw [decide_eq_true h2, Bool.true_and, decide_eq_false_iff_not] at h
                omega
            | true =>
              have hsp : qb = false ∧ kindAt ts q = 6 ∧ R.length < V.length := by
                have h := HC2.out
                simp only [Bool.and_eq_true, Bool.not_eq_true', decide_eq_true_eq] at h
                exact h
              obtain ⟨rfl, hk6, hlt⟩ := hsp
              have HS6 := Lib.hid (show kindAt ts q = 6 ∧ R.length < V.length from ⟨hk6, hlt⟩)
              clear hk6 hlt
              go_upto_region 6 with fail
              -- the document's state in box y0 is handed to take, and what comes is put back (the region's operations up to the store): c1 the state's cells c, q place, false bad, 6 kind, HQ.out place within, p1 new place, b1 new bad, x2 the text, w6 world behind. Facts: HTQ, HX, H0, H1, HN
              have htk := takeQ (HTQ.out.ext HX.out) (HQ.out) c1 false 6 (by decide)
              obtain ⟨⟨p1, b1, x2⟩, hr⟩ : ∃ r, takeR ts 6 q false = r := ⟨_, rfl⟩
              rw [hr] at htk
              dsimp only at htk
              have HTK := Lib.hid htk
              have HRp1 := Lib.hid hr
              have HPp1 := Lib.hid (show p1 ≤ ts.length by have h := takeR_le (ts := ts) (HQ.out) (q := 6) (by decide) false; rw [hr] at h; exact h)
              clear htk hr
              apply wp_region_lit
              -- a load of a whole row: y0 block, H0.out fact RowAt, colanderref16.State the type's name
              refine plain_load rfl _ _ rfl y0 rfl _ _ (H0.out) Try.underlying70 rfl (by kernel_rfl) ?_
              go_simp
              -- a call in a plain region: refine HTK.out.mono ?_; rintro e wt ⟨rfl, hxt⟩ the contract taken, and its results named
              refine wpList_plain rfl fun K1 hK1 => ?_
              go_simp
              refine HTK.out.mono ?_; rintro e wt ⟨rfl, hxt⟩
              go_simp
              refine hK1 _ _ ?_
              clear hK1 K1
              -- memory has been made
              replace HX := Lib.hid (HX.out.trans hxt)
              replace H0 := Lib.hid (H0.out.ext hxt)
              replace H1 := Lib.hid (H1.out.ext hxt)
              try replace H2 := Lib.hid (H2.out.ext hxt)
              try replace H3 := Lib.hid (H3.out.ext hxt)
              try replace HS4 := Lib.hid (Strs.ext HS4.out hxt)
              try replace HOA := Lib.hid (own_ext HOA.out hxt)
              try replace HOR := Lib.hid (own_ext HOR.out hxt)
              try replace HOH := Lib.hid (own_ext HOH.out hxt)
              clear hxt
              refine wpList_plain rfl fun K1 hK1 => ?_
              go_simp
              refine hK1 _ _ ?_
              clear hK1 K1
              refine wpList_plain rfl fun K1 hK1 => ?_
              go_simp
              refine hK1 _ _ ?_
              clear hK1 K1
              refine wpList_plain rfl fun K1 hK1 => ?_
              go_simp
              refine hK1 _ _ ?_
              clear hK1 K1
              -- a state's row is put into box y0: (c1) cells, p1 place, b1 bad, wt world, w6 world behind
              refine plain_store rfl _ _ _ rfl y0 (stL (c1) (.slice a ts.length k) p1 b1) rfl rfl (H0.out) (by kernel_rfl) rfl (stL_one (c1) _ _ _ _ _) ?_
              go_simp
              replace HX := Lib.hid (show Ext w (wt.setRow y0 (stL (c1) (.slice a ts.length k) p1 b1).toArray) from below_setRow HX.out (by have := HN.out; omega) _)
              replace H1 := Lib.hid (row_far H1.out (stL (c1) (.slice a ts.length k) p1 b1).toArray (show y1 ≠ y0 by have := HN.out; omega))
              try replace HOA := Lib.hid (own_turn HOA.out H0.out (by decide) (setRow_grown wt y0 (stL (c1) (.slice a ts.length k) p1 b1).toArray))
              try replace HOR := Lib.hid (own_turn HOR.out H0.out (by decide) (setRow_grown wt y0 (stL (c1) (.slice a ts.length k) p1 b1).toArray))
              try replace HOH := Lib.hid (own_turn HOH.out H0.out (by decide) (setRow_grown wt y0 (stL (c1) (.slice a ts.length k) p1 b1).toArray))
              replace H0 := Lib.hid (H0.out.setRow (stL (c1) (.slice a ts.length k) p1 b1))
              try replace H2 := Lib.hid (row_far H2.out (stL (c1) (.slice a ts.length k) p1 b1).toArray (show y2 ≠ y0 by have := HN.out; omega))
              try replace HS4 := Lib.hid (HF4.out.stay HS4.out (y := y0) (by have := HN.out; omega) (stL (c1) (.slice a ts.length k) p1 b1).toArray)
              generalize wt.setRow y0 (stL (c1) (.slice a ts.length k) p1 b1).toArray = w6 at *
              clear HTK
              apply wpList_nil
              have hg : p1 = q + 1 ∧ b1 = false := by
                have h := HRp1.out
                rw [takeR_ok HS6.out.1] at h
                cases h
                exact ⟨rfl, rfl⟩
              obtain ⟨rfl, rfl⟩ := hg
              have hvq := varQ (HTQ.out.ext HX.out) HPp1.out c1 A (Sl.of_own HOA.out) (by have := HAL.out; omega) (.slice c1.a2 c1.n2 c1.k2) R B HOR.out (Nat.le_trans HBB.out HX.out.size) (by have := HVL2.out; have := HS6.out.2; omega) false
              rw [HV.out] at hvq
              have hvl := varF_le V R HPp1.out false
              have hst := retC_step ts V (V.length - R.length - 1) R (q + 1)
              have hgd : (varF ts V R (q + 1) false).2.1 = false → (varF ts V R (q + 1) false).2.2.length = R.length + 1 := varF_good
              have hln := varF_len (ts := ts) V R (p := q + 1) false
              have hge : q + 1 ≤ (varF ts V R (q + 1) false).1 := varF_ge V R _ _
              obtain ⟨⟨q1', qb1', R1'⟩, hq1⟩ : ∃ r, varF ts V R (q + 1) false = r := ⟨_, rfl⟩
              rw [hq1] at hvq hvl hst hgd hln hge
              dsimp only at hvq hvl hst hgd hln hge
              have HVQ := Lib.hid hvq
              have HVL1 := Lib.hid hvl
              have HLN := Lib.hid hln
              have HGD1 := Lib.hid hgd
              have HGE := Lib.hid hge
              have HST : Hid (retP ts V V.length [] (p + 1) = retC ts V (V.length - R1'.length) R1' q1' qb1') := Lib.hid (by
                have hv := HS6.out.2
                rw [HRT.out]
                unfold retC
                rw [if_neg (by decide), if_pos ⟨by omega, HS6.out.1⟩, show V.length - R.length = V.length - R.length - 1 + 1 by omega, hst]
                cases hb : qb1' with
                | true => rw [retC_bad, if_pos rfl]
                | false => rw [hgd hb, show V.length - R.length - 1 = V.length - (R.length + 1) by omega]; rfl)
              clear hvq hvl hst hgd hln hge hq1
              have d4 := H0.out.cell (i := 4) rfl
              go_upto_region 7 with fail
              apply wp_region_lit
              -- a load of a whole row: y0 block, H0.out fact RowAt, colanderref16.State the type's name
              refine plain_load rfl _ _ rfl y0 rfl _ _ (H0.out) Try.underlying70 rfl (by kernel_rfl) ?_
              go_simp
              refine wpList_plain rfl fun K1 hK1 => ?_
              go_simp
              refine hK1 _ _ ?_
              clear hK1 K1
              refine wpList_plain rfl fun K1 hK1 => ?_
              go_simp
              refine hK1 _ _ ?_
              clear hK1 K1
              refine wpList_plain rfl fun K1 hK1 => ?_
              go_simp
              refine hK1 _ _ ?_
              clear hK1 K1
              -- a call in a plain region: refine HVQ.out.mono ?_; rintro e wt ⟨u, rfl, hu, hxt⟩; obtain ⟨ua', uc', rfl⟩ := own_vw hu the contract taken, and its results named
              refine wpList_plain rfl fun K1 hK1 => ?_
              go_simp
              refine HVQ.out.mono ?_; rintro e wt ⟨u, rfl, hu, hxt⟩; obtain ⟨ua', uc', rfl⟩ := own_vw hu
              go_simp
              refine hK1 _ _ ?_
              clear hK1 K1
              clear HOR d4
              -- memory has been made
              replace HX := Lib.hid (HX.out.trans hxt)
              replace H0 := Lib.hid (H0.out.ext hxt)
              replace H1 := Lib.hid (H1.out.ext hxt)
              try replace H2 := Lib.hid (H2.out.ext hxt)
              try replace H3 := Lib.hid (H3.out.ext hxt)
              try replace HS4 := Lib.hid (Strs.ext HS4.out hxt)
              try replace HOA := Lib.hid (own_ext HOA.out hxt)
              try replace HOR := Lib.hid (own_ext HOR.out hxt)
              try replace HOH := Lib.hid (own_ext HOH.out hxt)
              clear hxt
              have HOR := Lib.hid hu
              clear hu HVQ
              refine wpList_plain rfl fun K1 hK1 => ?_
              go_simp
              refine hK1 _ _ ?_
              clear hK1 K1
              refine wpList_plain rfl fun K1 hK1 => ?_
              go_simp
              refine hK1 _ _ ?_
              clear hK1 K1
              refine wpList_plain rfl fun K1 hK1 => ?_
              go_simp
              refine hK1 _ _ ?_
              clear hK1 K1
              -- a state's row is put into box y0: c1 cells, q1' place, qb1' bad, wt world, w7 world behind
              refine plain_store rfl _ _ _ rfl y0 (stL c1 (.slice a ts.length k) q1' qb1') rfl rfl (H0.out) (by kernel_rfl) rfl (stL_one c1 _ _ _ _ _) ?_
              go_simp
              replace HX := Lib.hid (show Ext w (wt.setRow y0 (stL c1 (.slice a ts.length k) q1' qb1').toArray) from below_setRow HX.out (by have := HN.out; omega) _)
              replace H1 := Lib.hid (row_far H1.out (stL c1 (.slice a ts.length k) q1' qb1').toArray (show y1 ≠ y0 by have := HN.out; omega))
              try replace HOA := Lib.hid (own_turn HOA.out H0.out (by decide) (setRow_grown wt y0 (stL c1 (.slice a ts.length k) q1' qb1').toArray))
              try replace HOR := Lib.hid (own_turn HOR.out H0.out (by decide) (setRow_grown wt y0 (stL c1 (.slice a ts.length k) q1' qb1').toArray))
              try replace HOH := Lib.hid (own_turn HOH.out H0.out (by decide) (setRow_grown wt y0 (stL c1 (.slice a ts.length k) q1' qb1').toArray))
              replace H0 := Lib.hid (H0.out.setRow (stL c1 (.slice a ts.length k) q1' qb1'))
              try replace H2 := Lib.hid (row_far H2.out (stL c1 (.slice a ts.length k) q1' qb1').toArray (show y2 ≠ y0 by have := HN.out; omega))
              try replace HS4 := Lib.hid (HF4.out.stay HS4.out (y := y0) (by have := HN.out; omega) (stL c1 (.slice a ts.length k) q1' qb1').toArray)
              generalize wt.setRow y0 (stL c1 (.slice a ts.length k) q1' qb1').toArray = w7 at *
              have ff := H0.out.frozen 4
              have dd := H0.out.cell (i := 4) rfl
              refine wpList_plain rfl fun K1 hK1 => ?_
              go_simp
              refine hK1 _ _ ?_
              clear hK1 K1
              refine wpList_plain rfl fun K1 hK1 => ?_
              go_simp
              refine hK1 _ _ ?_
              clear hK1 K1
              refine wpList_plain rfl fun K1 hK1 => ?_
              go_simp
              refine hK1 _ _ ?_
              clear hK1 K1
              have hs := Lib.hid (show RowAt (w7.setCell ⟨y0, 4, none⟩ ((.slice ua' R1'.length uc'))) y0 70 (stL { c1 with a2 := ua', n2 := R1'.length, k2 := uc' } (.slice a ts.length k) q1' qb1') from H0.out.set 4 ((.slice ua' R1'.length uc')))
              try replace HOA := Lib.hid (own_turn HOA.out H0.out (by decide) (grown_set w7 y0 4 ((.slice ua' R1'.length uc'))))
              try replace HOR := Lib.hid (own_turn HOR.out H0.out (by decide) (grown_set w7 y0 4 ((.slice ua' R1'.length uc'))))
              try replace HOH := Lib.hid (own_turn HOH.out H0.out (by decide) (grown_set w7 y0 4 ((.slice ua' R1'.length uc'))))
              replace H1 := Lib.hid (row_setk H1.out (z := y0) (by have := HN.out; omega) 4 ((.slice ua' R1'.length uc')))
              replace HX := Lib.hid (show Ext w (w7.setCell ⟨y0, 4, none⟩ ((.slice ua' R1'.length uc'))) from Ext.set_of HX.out (by have := HN.out; omega) _)
              clear ff dd H0
              have H0 := hs
              clear hs
              generalize w7.setCell ⟨y0, 4, none⟩ ((.slice ua' R1'.length uc')) = w8 at *
              apply wpList_nil
              go_wp2_with fail
              go_roundg (ts.length + 1 - q1')
              case measure => have := HG.out; have := HGE.out; have := HVL1.out; omega
              case rel => exact ⟨q1', rfl, _, qb1', R1', ⟨HX.out, H0.out, H1.out, HOA.out, HOR.out, HOH.out⟩, HFX.out, HVL1.out, by have := HLN.out; have := HS6.out.2; omega, fun e => by have := HGD1.out e; have := HS6.out.2; omega, HST.out⟩
    case rest =>
      obtain ⟨c1, q1, qb1, R1, htd, hfx, hq, hRl, hbad, hgood⟩ := hcut
      -- told: the facts of a cut's world are laid anew: htd the fact TdI, w4 world's name
      obtain ⟨w4, rfl⟩ : ∃ z, z = wc := ⟨_, rfl⟩
      clear HX H0 H1 HOA HOR HOH
      have HX := Lib.hid (htd).ext
      have H0 := Lib.hid (htd).r0
      have H1 := Lib.hid (htd).r1
      have HOA := Lib.hid (htd).oa
      have HOR := Lib.hid (htd).ort
      have HOH := Lib.hid (htd).oh
      have HFX := Lib.hid hfx
      have HQ1 := Lib.hid hq
      have HRL1 := Lib.hid hRl
      have HB1 := Lib.hid hbad
      have HG1 := Lib.hid hgood
      clear htd hfx hq hRl hbad hgood
      obtain ⟨K1, hk⟩ : ∃ b, saysR ts q1 qb1 wCount = b := ⟨_, rfl⟩
      have HK1 := Lib.hid hk
      clear hk
      go_upto_region 8 with fail
      go_cut [60] (fun s60 wx => s60 = .bool K1 ∧ Ext w4 wx)
      case first =>
        -- a region that asks whether a word is told: HK1 fact on its value, qb1 bad, HQ1.out place within, c1 cells, wCount word
        have hsy := saysQ (HTQ.out.ext HX.out) (HQ1.out) c1 qb1 wCount
        rw [HK1.out] at hsy
        have HSY := Lib.hid hsy
        clear hsy
        obtain ⟨f0, f1, f2, f3, f4, f5, f6, f7, f8, f9, f10, f11⟩ := stQ_facts H0.out
        go_wp2_with fail
        refine HSY.out.mono ?_
        rintro e wk ⟨rfl, hxk⟩
        have HXK := Lib.hid hxk
        clear f0 f1 f2 f3 f4 f5 f6 f7 f8 f9 f10 f11
        clear hxk
        try go_wp2_with fail
        go_meet
        exact ⟨rfl, HXK.out⟩
      case rest =>
        obtain ⟨rfl, hxc⟩ := hcut
        obtain ⟨w5, rfl⟩ : ∃ z, z = wc := ⟨_, rfl⟩
        -- memory has been made
        replace HX := Lib.hid (HX.out.trans hxc)
        replace H0 := Lib.hid (H0.out.ext hxc)
        replace H1 := Lib.hid (H1.out.ext hxc)
        try replace H2 := Lib.hid (H2.out.ext hxc)
        try replace H3 := Lib.hid (H3.out.ext hxc)
        try replace HS4 := Lib.hid (Strs.ext HS4.out hxc)
        try replace HOA := Lib.hid (own_ext HOA.out hxc)
        try replace HOR := Lib.hid (own_ext HOR.out hxc)
        try replace HOH := Lib.hid (own_ext HOH.out hxc)
        clear hxc
        go_upto_if 60 with fail
        go_cut [60] (fun s60 wx => PgO w ts a k B y0 y1 A R1 q1 qb1 wx)
        case first =>
          cases K1 with
          | true =>
            -- a word is told and taken: HK1 fact saysR .. = true, 9 region, q1 place, qb1 bad, HQ1.out within, c1 cells, w6 world behind; the place is then q1 + 1 (HSG: it is good, what the plain law says)
            have hsg := saysR_yes (HK1.out)
            have HSG := Lib.hid hsg
            clear hsg
            go_upto_region 9 with fail
            -- the document's state in box y0 is handed to take, and what comes is put back (the region's operations up to the store): c1 the state's cells c, q1 place, qb1 bad, 1 kind, HQ1.out place within, p1 new place, b1 new bad, x1 the text, w6 world behind. Facts: HTQ, HX, H0, H1, HN
            have htk := takeQ (HTQ.out.ext HX.out) (HQ1.out) c1 qb1 1 (by decide)
            obtain ⟨⟨p1, b1, x1⟩, hr⟩ : ∃ r, takeR ts 1 q1 qb1 = r := ⟨_, rfl⟩
            rw [hr] at htk
            dsimp only at htk
            have HTK := Lib.hid htk
            have HRp1 := Lib.hid hr
            have HPp1 := Lib.hid (show p1 ≤ ts.length by have h := takeR_le (ts := ts) (HQ1.out) (q := 1) (by decide) qb1; rw [hr] at h; exact h)
            clear htk hr
            apply wp_region_lit
            -- a load of a whole row: y0 block, H0.out fact RowAt, colanderref16.State the type's name
            refine plain_load rfl _ _ rfl y0 rfl _ _ (H0.out) Try.underlying70 rfl (by kernel_rfl) ?_
            go_simp
            -- a call in a plain region: refine HTK.out.mono ?_; rintro e wt ⟨rfl, hxt⟩ the contract taken, and its results named
            refine wpList_plain rfl fun K1 hK1 => ?_
            go_simp
            refine HTK.out.mono ?_; rintro e wt ⟨rfl, hxt⟩
            go_simp
            refine hK1 _ _ ?_
            clear hK1 K1
            -- memory has been made
            replace HX := Lib.hid (HX.out.trans hxt)
            replace H0 := Lib.hid (H0.out.ext hxt)
            replace H1 := Lib.hid (H1.out.ext hxt)
            try replace H2 := Lib.hid (H2.out.ext hxt)
            try replace H3 := Lib.hid (H3.out.ext hxt)
            try replace HS4 := Lib.hid (Strs.ext HS4.out hxt)
            try replace HOA := Lib.hid (own_ext HOA.out hxt)
            try replace HOR := Lib.hid (own_ext HOR.out hxt)
            try replace HOH := Lib.hid (own_ext HOH.out hxt)
            clear hxt
            refine wpList_plain rfl fun K1 hK1 => ?_
            go_simp
            refine hK1 _ _ ?_
            clear hK1 K1
            refine wpList_plain rfl fun K1 hK1 => ?_
            go_simp
            refine hK1 _ _ ?_
            clear hK1 K1
            refine wpList_plain rfl fun K1 hK1 => ?_
            go_simp
            refine hK1 _ _ ?_
            clear hK1 K1
            -- a state's row is put into box y0: (c1) cells, p1 place, b1 bad, wt world, w6 world behind
            refine plain_store rfl _ _ _ rfl y0 (stL (c1) (.slice a ts.length k) p1 b1) rfl rfl (H0.out) (by kernel_rfl) rfl (stL_one (c1) _ _ _ _ _) ?_
            go_simp
            replace HX := Lib.hid (show Ext w (wt.setRow y0 (stL (c1) (.slice a ts.length k) p1 b1).toArray) from below_setRow HX.out (by have := HN.out; omega) _)
            replace H1 := Lib.hid (row_far H1.out (stL (c1) (.slice a ts.length k) p1 b1).toArray (show y1 ≠ y0 by have := HN.out; omega))
            try replace HOA := Lib.hid (own_turn HOA.out H0.out (by decide) (setRow_grown wt y0 (stL (c1) (.slice a ts.length k) p1 b1).toArray))
            try replace HOR := Lib.hid (own_turn HOR.out H0.out (by decide) (setRow_grown wt y0 (stL (c1) (.slice a ts.length k) p1 b1).toArray))
            try replace HOH := Lib.hid (own_turn HOH.out H0.out (by decide) (setRow_grown wt y0 (stL (c1) (.slice a ts.length k) p1 b1).toArray))
            replace H0 := Lib.hid (H0.out.setRow (stL (c1) (.slice a ts.length k) p1 b1))
            try replace H2 := Lib.hid (row_far H2.out (stL (c1) (.slice a ts.length k) p1 b1).toArray (show y2 ≠ y0 by have := HN.out; omega))
            try replace HS4 := Lib.hid (HF4.out.stay HS4.out (y := y0) (by have := HN.out; omega) (stL (c1) (.slice a ts.length k) p1 b1).toArray)
            generalize wt.setRow y0 (stL (c1) (.slice a ts.length k) p1 b1).toArray = w6 at *
            clear HTK
            apply wpList_nil
            have hg : p1 = q1 + 1 ∧ b1 = false := by
              have h := HRp1.out
              rw [HSG.out.1, takeR_ok HSG.out.2.1] at h
              cases h
              exact ⟨rfl, rfl⟩
            obtain ⟨rfl, rfl⟩ := hg
            have HS1 := HSG
            clear HSG
            go_upto_region 10 with fail
            apply wp_region_lit
            -- a cell of the state is written (three operations): 5 its place, (.bool true) the value, { c1 with cn := true } cells c behind, (q1 + 1) place p behind, false bad behind, w6 world, w7 world behind
            have ff := H0.out.frozen 5
            have dd := H0.out.cell (i := 5) rfl
            refine wpList_plain rfl fun K1 hK1 => ?_
            go_simp
            refine hK1 _ _ ?_
            clear hK1 K1
            refine wpList_plain rfl fun K1 hK1 => ?_
            go_simp
            refine hK1 _ _ ?_
            clear hK1 K1
            refine wpList_plain rfl fun K1 hK1 => ?_
            go_simp
            refine hK1 _ _ ?_
            clear hK1 K1
            have hs := Lib.hid (show RowAt (w6.setCell ⟨y0, 5, none⟩ ((.bool true))) y0 70 (stL { c1 with cn := true } (.slice a ts.length k) (q1 + 1) false) from H0.out.set 5 ((.bool true)))
            try replace HOA := Lib.hid (own_turn HOA.out H0.out (by decide) (grown_set w6 y0 5 ((.bool true))))
            try replace HOR := Lib.hid (own_turn HOR.out H0.out (by decide) (grown_set w6 y0 5 ((.bool true))))
            try replace HOH := Lib.hid (own_turn HOH.out H0.out (by decide) (grown_set w6 y0 5 ((.bool true))))
            replace H1 := Lib.hid (row_setk H1.out (z := y0) (by have := HN.out; omega) 5 ((.bool true)))
            replace HX := Lib.hid (show Ext w (w6.setCell ⟨y0, 5, none⟩ ((.bool true))) from Ext.set_of HX.out (by have := HN.out; omega) _)
            clear ff dd H0
            have H0 := hs
            clear hs
            generalize w6.setCell ⟨y0, 5, none⟩ ((.bool true)) = w7 at *
            apply wpList_nil
            obtain ⟨K2, hk⟩ : ∃ b, saysR ts (q1 + 1) false wDistinct = b := ⟨_, rfl⟩
            have HK2 := Lib.hid hk
            clear hk
            go_upto_region 11 with fail
            go_cut [69] (fun s69 wx => s69 = .bool K2 ∧ Ext w7 wx)
            case first =>
              -- a region that asks whether a word is told: HK2 fact on its value, false bad, HPp1.out place within, { c1 with cn := true } cells, wDistinct word
              have hsy := saysQ (HTQ.out.ext HX.out) (HPp1.out) { c1 with cn := true } false wDistinct
              rw [HK2.out] at hsy
              have HSY := Lib.hid hsy
              clear hsy
              obtain ⟨f0, f1, f2, f3, f4, f5, f6, f7, f8, f9, f10, f11⟩ := stQ_facts H0.out
              go_wp2_with fail
              refine HSY.out.mono ?_
              rintro e wk ⟨rfl, hxk⟩
              have HXK := Lib.hid hxk
              clear f0 f1 f2 f3 f4 f5 f6 f7 f8 f9 f10 f11
              clear hxk
              try go_wp2_with fail
              go_meet
              exact ⟨rfl, HXK.out⟩
            case rest =>
              obtain ⟨rfl, hxc⟩ := hcut
              obtain ⟨w8, rfl⟩ : ∃ z, z = wc := ⟨_, rfl⟩
              -- memory has been made
              replace HX := Lib.hid (HX.out.trans hxc)
              replace H0 := Lib.hid (H0.out.ext hxc)
              replace H1 := Lib.hid (H1.out.ext hxc)
              try replace H2 := Lib.hid (H2.out.ext hxc)
              try replace H3 := Lib.hid (H3.out.ext hxc)
              try replace HS4 := Lib.hid (Strs.ext HS4.out hxc)
              try replace HOA := Lib.hid (own_ext HOA.out hxc)
              try replace HOR := Lib.hid (own_ext HOR.out hxc)
              try replace HOH := Lib.hid (own_ext HOH.out hxc)
              clear hxc
              have HCZ := Lib.hid (show c1.ds = false ∧ c1.lm = false ∧ c1.li = 0 ∧ c1.off = 0 from ⟨HFX.out.2.1.trans HZ.out.2.1, HFX.out.2.2.1.trans HZ.out.2.2.1, HFX.out.2.2.2.1.trans HZ.out.2.2.2.1, HFX.out.2.2.2.2.trans HZ.out.2.2.2.2⟩)
              cases K2 with
              | false =>
                go_wp2_with fail
                go_meet
                refine ⟨{ c1 with cn := true }, q1 + 1, false, ⟨HX.out, H0.out, H1.out, HOA.out, HOR.out, HOH.out⟩, HPp1.out, fun e => (by rw [HS1.out.1] at e; cases e), fun _ => ?_⟩
                have h2 := HK2.out
                rw [saysR_P] at h2
                obtain ⟨z1, z2, z3, z4⟩ := HCZ.out
                unfold toldPage
                rw [if_pos HS1.out.2.2, if_neg (by rw [h2]; decide), if_neg (by decide)]
                simp only [z1, z2, z3, z4]
              | true =>
                have HP2 := HPp1
                clear HPp1 HRp1
                -- a word is told and taken: HK2 fact saysR .. = true, 12 region, (q1 + 1) place, false bad, HP2.out within, { c1 with cn := true } cells, w9 world behind; the place is then (q1 + 1) + 1 (HSG: it is good, what the plain law says)
                have hsg := saysR_yes (HK2.out)
                have HSG := Lib.hid hsg
                clear hsg
                go_upto_region 12 with fail
                -- the document's state in box y0 is handed to take, and what comes is put back (the region's operations up to the store): { c1 with cn := true } the state's cells c, (q1 + 1) place, false bad, 1 kind, HP2.out place within, p1 new place, b1 new bad, x1 the text, w9 world behind. Facts: HTQ, HX, H0, H1, HN
                have htk := takeQ (HTQ.out.ext HX.out) (HP2.out) { c1 with cn := true } false 1 (by decide)
                obtain ⟨⟨p1, b1, x1⟩, hr⟩ : ∃ r, takeR ts 1 (q1 + 1) false = r := ⟨_, rfl⟩
                rw [hr] at htk
                dsimp only at htk
                have HTK := Lib.hid htk
                have HRp1 := Lib.hid hr
                have HPp1 := Lib.hid (show p1 ≤ ts.length by have h := takeR_le (ts := ts) (HP2.out) (q := 1) (by decide) false; rw [hr] at h; exact h)
                clear htk hr
                apply wp_region_lit
                -- a load of a whole row: y0 block, H0.out fact RowAt, colanderref16.State the type's name
                refine plain_load rfl _ _ rfl y0 rfl _ _ (H0.out) Try.underlying70 rfl (by kernel_rfl) ?_
                go_simp
                -- a call in a plain region: refine HTK.out.mono ?_; rintro e wt ⟨rfl, hxt⟩ the contract taken, and its results named
                refine wpList_plain rfl fun K1 hK1 => ?_
                go_simp
                refine HTK.out.mono ?_; rintro e wt ⟨rfl, hxt⟩
                go_simp
                refine hK1 _ _ ?_
                clear hK1 K1
                -- memory has been made
                replace HX := Lib.hid (HX.out.trans hxt)
                replace H0 := Lib.hid (H0.out.ext hxt)
                replace H1 := Lib.hid (H1.out.ext hxt)
                try replace H2 := Lib.hid (H2.out.ext hxt)
                try replace H3 := Lib.hid (H3.out.ext hxt)
                try replace HS4 := Lib.hid (Strs.ext HS4.out hxt)
                try replace HOA := Lib.hid (own_ext HOA.out hxt)
                try replace HOR := Lib.hid (own_ext HOR.out hxt)
                try replace HOH := Lib.hid (own_ext HOH.out hxt)
                clear hxt
                refine wpList_plain rfl fun K1 hK1 => ?_
                go_simp
                refine hK1 _ _ ?_
                clear hK1 K1
                refine wpList_plain rfl fun K1 hK1 => ?_
                go_simp
                refine hK1 _ _ ?_
                clear hK1 K1
                refine wpList_plain rfl fun K1 hK1 => ?_
                go_simp
                refine hK1 _ _ ?_
                clear hK1 K1
                -- a state's row is put into box y0: ({ c1 with cn := true }) cells, p1 place, b1 bad, wt world, w9 world behind
                refine plain_store rfl _ _ _ rfl y0 (stL ({ c1 with cn := true }) (.slice a ts.length k) p1 b1) rfl rfl (H0.out) (by kernel_rfl) rfl (stL_one ({ c1 with cn := true }) _ _ _ _ _) ?_
                go_simp
                replace HX := Lib.hid (show Ext w (wt.setRow y0 (stL ({ c1 with cn := true }) (.slice a ts.length k) p1 b1).toArray) from below_setRow HX.out (by have := HN.out; omega) _)
                replace H1 := Lib.hid (row_far H1.out (stL ({ c1 with cn := true }) (.slice a ts.length k) p1 b1).toArray (show y1 ≠ y0 by have := HN.out; omega))
                try replace HOA := Lib.hid (own_turn HOA.out H0.out (by decide) (setRow_grown wt y0 (stL ({ c1 with cn := true }) (.slice a ts.length k) p1 b1).toArray))
                try replace HOR := Lib.hid (own_turn HOR.out H0.out (by decide) (setRow_grown wt y0 (stL ({ c1 with cn := true }) (.slice a ts.length k) p1 b1).toArray))
                try replace HOH := Lib.hid (own_turn HOH.out H0.out (by decide) (setRow_grown wt y0 (stL ({ c1 with cn := true }) (.slice a ts.length k) p1 b1).toArray))
                replace H0 := Lib.hid (H0.out.setRow (stL ({ c1 with cn := true }) (.slice a ts.length k) p1 b1))
                try replace H2 := Lib.hid (row_far H2.out (stL ({ c1 with cn := true }) (.slice a ts.length k) p1 b1).toArray (show y2 ≠ y0 by have := HN.out; omega))
                try replace HS4 := Lib.hid (HF4.out.stay HS4.out (y := y0) (by have := HN.out; omega) (stL ({ c1 with cn := true }) (.slice a ts.length k) p1 b1).toArray)
                generalize wt.setRow y0 (stL ({ c1 with cn := true }) (.slice a ts.length k) p1 b1).toArray = w9 at *
                clear HTK
                apply wpList_nil
                have hg : p1 = (q1 + 1) + 1 ∧ b1 = false := by
                  have h := HRp1.out
                  rw [HSG.out.1, takeR_ok HSG.out.2.1] at h
                  cases h
                  exact ⟨rfl, rfl⟩
                obtain ⟨rfl, rfl⟩ := hg
                go_upto_region 13 with fail
                apply wp_region_lit
                -- a cell of the state is written (three operations): 6 its place, (.bool true) the value, { c1 with cn := true, ds := true } cells c behind, (q1 + 1 + 1) place p behind, false bad behind, w9 world, w10 world behind
                have ff := H0.out.frozen 6
                have dd := H0.out.cell (i := 6) rfl
                refine wpList_plain rfl fun K1 hK1 => ?_
                go_simp
                refine hK1 _ _ ?_
                clear hK1 K1
                refine wpList_plain rfl fun K1 hK1 => ?_
                go_simp
                refine hK1 _ _ ?_
                clear hK1 K1
                refine wpList_plain rfl fun K1 hK1 => ?_
                go_simp
                refine hK1 _ _ ?_
                clear hK1 K1
                have hs := Lib.hid (show RowAt (w9.setCell ⟨y0, 6, none⟩ ((.bool true))) y0 70 (stL { c1 with cn := true, ds := true } (.slice a ts.length k) (q1 + 1 + 1) false) from H0.out.set 6 ((.bool true)))
                try replace HOA := Lib.hid (own_turn HOA.out H0.out (by decide) (grown_set w9 y0 6 ((.bool true))))
                try replace HOR := Lib.hid (own_turn HOR.out H0.out (by decide) (grown_set w9 y0 6 ((.bool true))))
                try replace HOH := Lib.hid (own_turn HOH.out H0.out (by decide) (grown_set w9 y0 6 ((.bool true))))
                replace H1 := Lib.hid (row_setk H1.out (z := y0) (by have := HN.out; omega) 6 ((.bool true)))
                replace HX := Lib.hid (show Ext w (w9.setCell ⟨y0, 6, none⟩ ((.bool true))) from Ext.set_of HX.out (by have := HN.out; omega) _)
                clear ff dd H0
                have H0 := hs
                clear hs
                generalize w9.setCell ⟨y0, 6, none⟩ ((.bool true)) = w10 at *
                apply wpList_nil
                go_wp2_with fail
                go_meet
                refine ⟨{ c1 with cn := true, ds := true }, q1 + 1 + 1, false, ⟨HX.out, H0.out, H1.out, HOA.out, HOR.out, HOH.out⟩, HPp1.out, fun e => (by rw [HS1.out.1] at e; cases e), fun _ => ?_⟩
                obtain ⟨z1, z2, z3, z4⟩ := HCZ.out
                unfold toldPage
                rw [if_pos HS1.out.2.2, if_pos HSG.out.2.2, if_neg (by decide)]
                simp only [z2, z3, z4]
          | false =>
            have HCZ := Lib.hid (show c1.cn = false ∧ c1.ds = false ∧ c1.lm = false ∧ c1.li = 0 ∧ c1.off = 0 from ⟨HFX.out.1.trans HZ.out.1, HFX.out.2.1.trans HZ.out.2.1, HFX.out.2.2.1.trans HZ.out.2.2.1, HFX.out.2.2.2.1.trans HZ.out.2.2.2.1, HFX.out.2.2.2.2.trans HZ.out.2.2.2.2⟩)
            obtain ⟨K3, hk⟩ : ∃ b, saysR ts q1 qb1 wLimit = b := ⟨_, rfl⟩
            have HK3 := Lib.hid hk
            clear hk
            go_upto_region 14 with fail
            go_cut [78] (fun s78 wx => s78 = .bool K3 ∧ Ext w5 wx)
            case first =>
              -- a region that asks whether a word is told: HK3 fact on its value, qb1 bad, HQ1.out place within, c1 cells, wLimit word
              have hsy := saysQ (HTQ.out.ext HX.out) (HQ1.out) c1 qb1 wLimit
              rw [HK3.out] at hsy
              have HSY := Lib.hid hsy
              clear hsy
              obtain ⟨f0, f1, f2, f3, f4, f5, f6, f7, f8, f9, f10, f11⟩ := stQ_facts H0.out
              go_wp2_with fail
              refine HSY.out.mono ?_
              rintro e wk ⟨rfl, hxk⟩
              have HXK := Lib.hid hxk
              clear f0 f1 f2 f3 f4 f5 f6 f7 f8 f9 f10 f11
              clear hxk
              try go_wp2_with fail
              go_meet
              exact ⟨rfl, HXK.out⟩
            case rest =>
              obtain ⟨rfl, hxc⟩ := hcut
              obtain ⟨w6, rfl⟩ : ∃ z, z = wc := ⟨_, rfl⟩
              -- memory has been made
              replace HX := Lib.hid (HX.out.trans hxc)
              replace H0 := Lib.hid (H0.out.ext hxc)
              replace H1 := Lib.hid (H1.out.ext hxc)
              try replace H2 := Lib.hid (H2.out.ext hxc)
              try replace H3 := Lib.hid (H3.out.ext hxc)
              try replace HS4 := Lib.hid (Strs.ext HS4.out hxc)
              try replace HOA := Lib.hid (own_ext HOA.out hxc)
              try replace HOR := Lib.hid (own_ext HOR.out hxc)
              try replace HOH := Lib.hid (own_ext HOH.out hxc)
              clear hxc
              go_upto_if 78 with fail
              go_cut [78] (fun s78 wx => LmO w ts a k B y0 y1 A R1 c1 q1 qb1 wx)
              case first =>
                cases K3 with
                | true =>
                  -- a word is told and taken: HK3 fact saysR .. = true, 15 region, q1 place, qb1 bad, HQ1.out within, c1 cells, w7 world behind; the place is then q1 + 1 (HSG: it is good, what the plain law says)
                  have hsg := saysR_yes (HK3.out)
                  have HSG := Lib.hid hsg
                  clear hsg
                  go_upto_region 15 with fail
                  -- the document's state in box y0 is handed to take, and what comes is put back (the region's operations up to the store): c1 the state's cells c, q1 place, qb1 bad, 1 kind, HQ1.out place within, p1 new place, b1 new bad, x1 the text, w7 world behind. Facts: HTQ, HX, H0, H1, HN
                  have htk := takeQ (HTQ.out.ext HX.out) (HQ1.out) c1 qb1 1 (by decide)
                  obtain ⟨⟨p1, b1, x1⟩, hr⟩ : ∃ r, takeR ts 1 q1 qb1 = r := ⟨_, rfl⟩
                  rw [hr] at htk
                  dsimp only at htk
                  have HTK := Lib.hid htk
                  have HRp1 := Lib.hid hr
                  have HPp1 := Lib.hid (show p1 ≤ ts.length by have h := takeR_le (ts := ts) (HQ1.out) (q := 1) (by decide) qb1; rw [hr] at h; exact h)
                  clear htk hr
                  apply wp_region_lit
                  -- a load of a whole row: y0 block, H0.out fact RowAt, colanderref16.State the type's name
                  refine plain_load rfl _ _ rfl y0 rfl _ _ (H0.out) Try.underlying70 rfl (by kernel_rfl) ?_
                  go_simp
                  -- a call in a plain region: refine HTK.out.mono ?_; rintro e wt ⟨rfl, hxt⟩ the contract taken, and its results named
                  refine wpList_plain rfl fun K1 hK1 => ?_
                  go_simp
                  refine HTK.out.mono ?_; rintro e wt ⟨rfl, hxt⟩
                  go_simp
                  refine hK1 _ _ ?_
                  clear hK1 K1
                  -- memory has been made
                  replace HX := Lib.hid (HX.out.trans hxt)
                  replace H0 := Lib.hid (H0.out.ext hxt)
                  replace H1 := Lib.hid (H1.out.ext hxt)
                  try replace H2 := Lib.hid (H2.out.ext hxt)
                  try replace H3 := Lib.hid (H3.out.ext hxt)
                  try replace HS4 := Lib.hid (Strs.ext HS4.out hxt)
                  try replace HOA := Lib.hid (own_ext HOA.out hxt)
                  try replace HOR := Lib.hid (own_ext HOR.out hxt)
                  try replace HOH := Lib.hid (own_ext HOH.out hxt)
                  clear hxt
                  refine wpList_plain rfl fun K1 hK1 => ?_
                  go_simp
                  refine hK1 _ _ ?_
                  clear hK1 K1
                  refine wpList_plain rfl fun K1 hK1 => ?_
                  go_simp
                  refine hK1 _ _ ?_
                  clear hK1 K1
                  refine wpList_plain rfl fun K1 hK1 => ?_
                  go_simp
                  refine hK1 _ _ ?_
                  clear hK1 K1
                  -- a state's row is put into box y0: (c1) cells, p1 place, b1 bad, wt world, w7 world behind
                  refine plain_store rfl _ _ _ rfl y0 (stL (c1) (.slice a ts.length k) p1 b1) rfl rfl (H0.out) (by kernel_rfl) rfl (stL_one (c1) _ _ _ _ _) ?_
                  go_simp
                  replace HX := Lib.hid (show Ext w (wt.setRow y0 (stL (c1) (.slice a ts.length k) p1 b1).toArray) from below_setRow HX.out (by have := HN.out; omega) _)
                  replace H1 := Lib.hid (row_far H1.out (stL (c1) (.slice a ts.length k) p1 b1).toArray (show y1 ≠ y0 by have := HN.out; omega))
                  try replace HOA := Lib.hid (own_turn HOA.out H0.out (by decide) (setRow_grown wt y0 (stL (c1) (.slice a ts.length k) p1 b1).toArray))
                  try replace HOR := Lib.hid (own_turn HOR.out H0.out (by decide) (setRow_grown wt y0 (stL (c1) (.slice a ts.length k) p1 b1).toArray))
                  try replace HOH := Lib.hid (own_turn HOH.out H0.out (by decide) (setRow_grown wt y0 (stL (c1) (.slice a ts.length k) p1 b1).toArray))
                  replace H0 := Lib.hid (H0.out.setRow (stL (c1) (.slice a ts.length k) p1 b1))
                  try replace H2 := Lib.hid (row_far H2.out (stL (c1) (.slice a ts.length k) p1 b1).toArray (show y2 ≠ y0 by have := HN.out; omega))
                  try replace HS4 := Lib.hid (HF4.out.stay HS4.out (y := y0) (by have := HN.out; omega) (stL (c1) (.slice a ts.length k) p1 b1).toArray)
                  generalize wt.setRow y0 (stL (c1) (.slice a ts.length k) p1 b1).toArray = w7 at *
                  clear HTK
                  apply wpList_nil
                  have hg : p1 = q1 + 1 ∧ b1 = false := by
                    have h := HRp1.out
                    rw [HSG.out.1, takeR_ok HSG.out.2.1] at h
                    cases h
                    exact ⟨rfl, rfl⟩
                  obtain ⟨rfl, rfl⟩ := hg
                  -- a number is read and kept: 16 region, (q1 + 1) place, 8 its cell, q3 qb3 n3 results, c1 cells, { c1 with li := n3 } cells behind, w8 world behind
                  have hnq := numQ (HTQ.out.ext HX.out) HPp1.out c1 false
                  have hnl := numF_le HPp1.out false
                  obtain ⟨⟨q3, qb3, n3⟩, hn⟩ : ∃ r, numF ts (q1 + 1) false = r := ⟨_, rfl⟩
                  rw [hn] at hnq hnl
                  dsimp only at hnq hnl
                  have HNQ := Lib.hid hnq
                  have HLq3 := Lib.hid hnl
                  have HRq3 := Lib.hid hn
                  clear hnq hnl hn
                  go_upto_region 16 with fail
                  apply wp_region_lit
                  -- a load of a whole row: y0 block, H0.out fact RowAt, colanderref16.State the type's name
                  refine plain_load rfl _ _ rfl y0 rfl _ _ (H0.out) Try.underlying70 rfl (by kernel_rfl) ?_
                  go_simp
                  -- a call in a plain region: refine HNQ.out.mono ?_; rintro e wt ⟨rfl, hxt⟩ the contract taken, and its results named
                  refine wpList_plain rfl fun K1 hK1 => ?_
                  go_simp
                  refine HNQ.out.mono ?_; rintro e wt ⟨rfl, hxt⟩
                  go_simp
                  refine hK1 _ _ ?_
                  clear hK1 K1
                  -- memory has been made
                  replace HX := Lib.hid (HX.out.trans hxt)
                  replace H0 := Lib.hid (H0.out.ext hxt)
                  replace H1 := Lib.hid (H1.out.ext hxt)
                  try replace H2 := Lib.hid (H2.out.ext hxt)
                  try replace H3 := Lib.hid (H3.out.ext hxt)
                  try replace HS4 := Lib.hid (Strs.ext HS4.out hxt)
                  try replace HOA := Lib.hid (own_ext HOA.out hxt)
                  try replace HOR := Lib.hid (own_ext HOR.out hxt)
                  try replace HOH := Lib.hid (own_ext HOH.out hxt)
                  clear hxt
                  clear HNQ
                  refine wpList_plain rfl fun K1 hK1 => ?_
                  go_simp
                  refine hK1 _ _ ?_
                  clear hK1 K1
                  refine wpList_plain rfl fun K1 hK1 => ?_
                  go_simp
                  refine hK1 _ _ ?_
                  clear hK1 K1
                  refine wpList_plain rfl fun K1 hK1 => ?_
                  go_simp
                  refine hK1 _ _ ?_
                  clear hK1 K1
                  -- a state's row is put into box y0: (c1) cells, q3 place, qb3 bad, wt world, wu world behind
                  refine plain_store rfl _ _ _ rfl y0 (stL (c1) (.slice a ts.length k) q3 qb3) rfl rfl (H0.out) (by kernel_rfl) rfl (stL_one (c1) _ _ _ _ _) ?_
                  go_simp
                  replace HX := Lib.hid (show Ext w (wt.setRow y0 (stL (c1) (.slice a ts.length k) q3 qb3).toArray) from below_setRow HX.out (by have := HN.out; omega) _)
                  replace H1 := Lib.hid (row_far H1.out (stL (c1) (.slice a ts.length k) q3 qb3).toArray (show y1 ≠ y0 by have := HN.out; omega))
                  try replace HOA := Lib.hid (own_turn HOA.out H0.out (by decide) (setRow_grown wt y0 (stL (c1) (.slice a ts.length k) q3 qb3).toArray))
                  try replace HOR := Lib.hid (own_turn HOR.out H0.out (by decide) (setRow_grown wt y0 (stL (c1) (.slice a ts.length k) q3 qb3).toArray))
                  try replace HOH := Lib.hid (own_turn HOH.out H0.out (by decide) (setRow_grown wt y0 (stL (c1) (.slice a ts.length k) q3 qb3).toArray))
                  replace H0 := Lib.hid (H0.out.setRow (stL (c1) (.slice a ts.length k) q3 qb3))
                  try replace H2 := Lib.hid (row_far H2.out (stL (c1) (.slice a ts.length k) q3 qb3).toArray (show y2 ≠ y0 by have := HN.out; omega))
                  try replace HS4 := Lib.hid (HF4.out.stay HS4.out (y := y0) (by have := HN.out; omega) (stL (c1) (.slice a ts.length k) q3 qb3).toArray)
                  generalize wt.setRow y0 (stL (c1) (.slice a ts.length k) q3 qb3).toArray = wu at *
                  -- a cell of the state is written (three operations): 8 its place, (.int .i64 n3) the value, { c1 with li := n3 } cells c behind, q3 place p behind, qb3 bad behind, wu world, w8 world behind
                  have ff := H0.out.frozen 8
                  have dd := H0.out.cell (i := 8) rfl
                  refine wpList_plain rfl fun K1 hK1 => ?_
                  go_simp
                  refine hK1 _ _ ?_
                  clear hK1 K1
                  refine wpList_plain rfl fun K1 hK1 => ?_
                  go_simp
                  refine hK1 _ _ ?_
                  clear hK1 K1
                  refine wpList_plain rfl fun K1 hK1 => ?_
                  go_simp
                  refine hK1 _ _ ?_
                  clear hK1 K1
                  have hs := Lib.hid (show RowAt (wu.setCell ⟨y0, 8, none⟩ ((.int .i64 n3))) y0 70 (stL { c1 with li := n3 } (.slice a ts.length k) q3 qb3) from H0.out.set 8 ((.int .i64 n3)))
                  try replace HOA := Lib.hid (own_turn HOA.out H0.out (by decide) (grown_set wu y0 8 ((.int .i64 n3))))
                  try replace HOR := Lib.hid (own_turn HOR.out H0.out (by decide) (grown_set wu y0 8 ((.int .i64 n3))))
                  try replace HOH := Lib.hid (own_turn HOH.out H0.out (by decide) (grown_set wu y0 8 ((.int .i64 n3))))
                  replace H1 := Lib.hid (row_setk H1.out (z := y0) (by have := HN.out; omega) 8 ((.int .i64 n3)))
                  replace HX := Lib.hid (show Ext w (wu.setCell ⟨y0, 8, none⟩ ((.int .i64 n3))) from Ext.set_of HX.out (by have := HN.out; omega) _)
                  clear ff dd H0
                  have H0 := hs
                  clear hs
                  generalize wu.setCell ⟨y0, 8, none⟩ ((.int .i64 n3)) = w8 at *
                  apply wpList_nil
                  go_upto_region 17 with fail
                  apply wp_region_lit
                  -- a cell of the state is written (three operations): 7 its place, (.bool true) the value, { c1 with li := n3, lm := true } cells c behind, q3 place p behind, qb3 bad behind, w8 world, w9 world behind
                  have ff := H0.out.frozen 7
                  have dd := H0.out.cell (i := 7) rfl
                  refine wpList_plain rfl fun K1 hK1 => ?_
                  go_simp
                  refine hK1 _ _ ?_
                  clear hK1 K1
                  refine wpList_plain rfl fun K1 hK1 => ?_
                  go_simp
                  refine hK1 _ _ ?_
                  clear hK1 K1
                  refine wpList_plain rfl fun K1 hK1 => ?_
                  go_simp
                  refine hK1 _ _ ?_
                  clear hK1 K1
                  have hs := Lib.hid (show RowAt (w8.setCell ⟨y0, 7, none⟩ ((.bool true))) y0 70 (stL { c1 with li := n3, lm := true } (.slice a ts.length k) q3 qb3) from H0.out.set 7 ((.bool true)))
                  try replace HOA := Lib.hid (own_turn HOA.out H0.out (by decide) (grown_set w8 y0 7 ((.bool true))))
                  try replace HOR := Lib.hid (own_turn HOR.out H0.out (by decide) (grown_set w8 y0 7 ((.bool true))))
                  try replace HOH := Lib.hid (own_turn HOH.out H0.out (by decide) (grown_set w8 y0 7 ((.bool true))))
                  replace H1 := Lib.hid (row_setk H1.out (z := y0) (by have := HN.out; omega) 7 ((.bool true)))
                  replace HX := Lib.hid (show Ext w (w8.setCell ⟨y0, 7, none⟩ ((.bool true))) from Ext.set_of HX.out (by have := HN.out; omega) _)
                  clear ff dd H0
                  have H0 := hs
                  clear hs
                  generalize w8.setCell ⟨y0, 7, none⟩ ((.bool true)) = w9 at *
                  apply wpList_nil
                  go_wp2_with fail
                  go_meet
                  refine ⟨{ c1 with li := n3, lm := true }, q3, qb3, ⟨HX.out, H0.out, H1.out, HOA.out, HOR.out, HOH.out⟩, ⟨rfl, rfl, rfl⟩, HLq3.out, fun e => (by rw [HSG.out.1] at e; cases e), fun _ => ?_⟩
                  rw [if_pos HSG.out.2.2]
                  have h := numF_P ts (q1 + 1)
                  rw [HRq3.out] at h
                  cases hn : numP ts (q1 + 1) with
                  | error e => rw [hn] at h; obtain ⟨rfl, rfl⟩ := h; rfl
                  | ok r => obtain ⟨n, q⟩ := r; rw [hn] at h; cases h; rfl
                | false =>
                  go_wp2_with fail
                  go_meet
                  refine ⟨c1, q1, qb1, ⟨HX.out, H0.out, H1.out, HOA.out, HOR.out, HOH.out⟩, ⟨rfl, rfl, rfl⟩, HQ1.out, fun e => ⟨rfl, e⟩, fun e => ?_⟩
                  subst e
                  have h2 := HK3.out
                  rw [saysR_P] at h2
                  rw [if_neg (by rw [h2]; decide), if_neg (by decide), HCZ.out.2.2.1, HCZ.out.2.2.2.1]
              case rest =>
                obtain ⟨c2, q2, qb2, htd, hf2, hq2, hbad, hgood⟩ := hcut
                -- told: the facts of a cut's world are laid anew: htd the fact TdI, w7 world's name
                obtain ⟨w7, rfl⟩ : ∃ z, z = wc := ⟨_, rfl⟩
                clear HX H0 H1 HOA HOR HOH
                have HX := Lib.hid (htd).ext
                have H0 := Lib.hid (htd).r0
                have H1 := Lib.hid (htd).r1
                have HOA := Lib.hid (htd).oa
                have HOR := Lib.hid (htd).ort
                have HOH := Lib.hid (htd).oh
                have HF2 := Lib.hid hf2
                have HQ2 := Lib.hid hq2
                have HB2 := Lib.hid hbad
                have HG2 := Lib.hid hgood
                clear htd hf2 hq2 hbad hgood
                obtain ⟨K4, hk⟩ : ∃ b, saysR ts q2 qb2 wOffset = b := ⟨_, rfl⟩
                have HK4 := Lib.hid hk
                clear hk
                go_upto_region 18 with fail
                go_cut [94] (fun s94 wx => s94 = .bool K4 ∧ Ext w7 wx)
                case first =>
                  -- a region that asks whether a word is told: HK4 fact on its value, qb2 bad, HQ2.out place within, c2 cells, wOffset word
                  have hsy := saysQ (HTQ.out.ext HX.out) (HQ2.out) c2 qb2 wOffset
                  rw [HK4.out] at hsy
                  have HSY := Lib.hid hsy
                  clear hsy
                  obtain ⟨f0, f1, f2, f3, f4, f5, f6, f7, f8, f9, f10, f11⟩ := stQ_facts H0.out
                  go_wp2_with fail
                  refine HSY.out.mono ?_
                  rintro e wk ⟨rfl, hxk⟩
                  have HXK := Lib.hid hxk
                  clear f0 f1 f2 f3 f4 f5 f6 f7 f8 f9 f10 f11
                  clear hxk
                  try go_wp2_with fail
                  go_meet
                  exact ⟨rfl, HXK.out⟩
                case rest =>
                  obtain ⟨rfl, hxc⟩ := hcut
                  obtain ⟨w8, rfl⟩ : ∃ z, z = wc := ⟨_, rfl⟩
                  -- memory has been made
                  replace HX := Lib.hid (HX.out.trans hxc)
                  replace H0 := Lib.hid (H0.out.ext hxc)
                  replace H1 := Lib.hid (H1.out.ext hxc)
                  try replace H2 := Lib.hid (H2.out.ext hxc)
                  try replace H3 := Lib.hid (H3.out.ext hxc)
                  try replace HS4 := Lib.hid (Strs.ext HS4.out hxc)
                  try replace HOA := Lib.hid (own_ext HOA.out hxc)
                  try replace HOR := Lib.hid (own_ext HOR.out hxc)
                  try replace HOH := Lib.hid (own_ext HOH.out hxc)
                  clear hxc
                  have HCN : Hid (qb1 = false → saysP ts wCount q1 = false) := Lib.hid (fun e => by have h := HK1.out; rw [e, saysR_P] at h; exact h)
                  cases K4 with
                  | true =>
                    -- a word is told and taken: HK4 fact saysR .. = true, 19 region, q2 place, qb2 bad, HQ2.out within, c2 cells, w9 world behind; the place is then q2 + 1 (HSG: it is good, what the plain law says)
                    have hsg := saysR_yes (HK4.out)
                    have HSG := Lib.hid hsg
                    clear hsg
                    go_upto_region 19 with fail
                    -- the document's state in box y0 is handed to take, and what comes is put back (the region's operations up to the store): c2 the state's cells c, q2 place, qb2 bad, 1 kind, HQ2.out place within, p1 new place, b1 new bad, x1 the text, w9 world behind. Facts: HTQ, HX, H0, H1, HN
                    have htk := takeQ (HTQ.out.ext HX.out) (HQ2.out) c2 qb2 1 (by decide)
                    obtain ⟨⟨p1, b1, x1⟩, hr⟩ : ∃ r, takeR ts 1 q2 qb2 = r := ⟨_, rfl⟩
                    rw [hr] at htk
                    dsimp only at htk
                    have HTK := Lib.hid htk
                    have HRp1 := Lib.hid hr
                    have HPp1 := Lib.hid (show p1 ≤ ts.length by have h := takeR_le (ts := ts) (HQ2.out) (q := 1) (by decide) qb2; rw [hr] at h; exact h)
                    clear htk hr
                    apply wp_region_lit
                    -- a load of a whole row: y0 block, H0.out fact RowAt, colanderref16.State the type's name
                    refine plain_load rfl _ _ rfl y0 rfl _ _ (H0.out) Try.underlying70 rfl (by kernel_rfl) ?_
                    go_simp
                    -- a call in a plain region: refine HTK.out.mono ?_; rintro e wt ⟨rfl, hxt⟩ the contract taken, and its results named
                    refine wpList_plain rfl fun K1 hK1 => ?_
                    go_simp
                    refine HTK.out.mono ?_; rintro e wt ⟨rfl, hxt⟩
                    go_simp
                    refine hK1 _ _ ?_
                    clear hK1 K1
                    -- memory has been made
                    replace HX := Lib.hid (HX.out.trans hxt)
                    replace H0 := Lib.hid (H0.out.ext hxt)
                    replace H1 := Lib.hid (H1.out.ext hxt)
                    try replace H2 := Lib.hid (H2.out.ext hxt)
                    try replace H3 := Lib.hid (H3.out.ext hxt)
                    try replace HS4 := Lib.hid (Strs.ext HS4.out hxt)
                    try replace HOA := Lib.hid (own_ext HOA.out hxt)
                    try replace HOR := Lib.hid (own_ext HOR.out hxt)
                    try replace HOH := Lib.hid (own_ext HOH.out hxt)
                    clear hxt
                    refine wpList_plain rfl fun K1 hK1 => ?_
                    go_simp
                    refine hK1 _ _ ?_
                    clear hK1 K1
                    refine wpList_plain rfl fun K1 hK1 => ?_
                    go_simp
                    refine hK1 _ _ ?_
                    clear hK1 K1
                    refine wpList_plain rfl fun K1 hK1 => ?_
                    go_simp
                    refine hK1 _ _ ?_
                    clear hK1 K1
                    -- a state's row is put into box y0: (c2) cells, p1 place, b1 bad, wt world, w9 world behind
                    refine plain_store rfl _ _ _ rfl y0 (stL (c2) (.slice a ts.length k) p1 b1) rfl rfl (H0.out) (by kernel_rfl) rfl (stL_one (c2) _ _ _ _ _) ?_
                    go_simp
                    replace HX := Lib.hid (show Ext w (wt.setRow y0 (stL (c2) (.slice a ts.length k) p1 b1).toArray) from below_setRow HX.out (by have := HN.out; omega) _)
                    replace H1 := Lib.hid (row_far H1.out (stL (c2) (.slice a ts.length k) p1 b1).toArray (show y1 ≠ y0 by have := HN.out; omega))
                    try replace HOA := Lib.hid (own_turn HOA.out H0.out (by decide) (setRow_grown wt y0 (stL (c2) (.slice a ts.length k) p1 b1).toArray))
                    try replace HOR := Lib.hid (own_turn HOR.out H0.out (by decide) (setRow_grown wt y0 (stL (c2) (.slice a ts.length k) p1 b1).toArray))
                    try replace HOH := Lib.hid (own_turn HOH.out H0.out (by decide) (setRow_grown wt y0 (stL (c2) (.slice a ts.length k) p1 b1).toArray))
                    replace H0 := Lib.hid (H0.out.setRow (stL (c2) (.slice a ts.length k) p1 b1))
                    try replace H2 := Lib.hid (row_far H2.out (stL (c2) (.slice a ts.length k) p1 b1).toArray (show y2 ≠ y0 by have := HN.out; omega))
                    try replace HS4 := Lib.hid (HF4.out.stay HS4.out (y := y0) (by have := HN.out; omega) (stL (c2) (.slice a ts.length k) p1 b1).toArray)
                    generalize wt.setRow y0 (stL (c2) (.slice a ts.length k) p1 b1).toArray = w9 at *
                    clear HTK
                    apply wpList_nil
                    have hg : p1 = q2 + 1 ∧ b1 = false := by
                      have h := HRp1.out
                      rw [HSG.out.1, takeR_ok HSG.out.2.1] at h
                      cases h
                      exact ⟨rfl, rfl⟩
                    obtain ⟨rfl, rfl⟩ := hg
                    -- a number is read and kept: 20 region, (q2 + 1) place, 9 its cell, q3 qb3 n3 results, c2 cells, { c2 with off := n3 } cells behind, w10 world behind
                    have hnq := numQ (HTQ.out.ext HX.out) HPp1.out c2 false
                    have hnl := numF_le HPp1.out false
                    obtain ⟨⟨q3, qb3, n3⟩, hn⟩ : ∃ r, numF ts (q2 + 1) false = r := ⟨_, rfl⟩
                    rw [hn] at hnq hnl
                    dsimp only at hnq hnl
                    have HNQ := Lib.hid hnq
                    have HLq3 := Lib.hid hnl
                    have HRq3 := Lib.hid hn
                    clear hnq hnl hn
                    go_upto_region 20 with fail
                    apply wp_region_lit
                    -- a load of a whole row: y0 block, H0.out fact RowAt, colanderref16.State the type's name
                    refine plain_load rfl _ _ rfl y0 rfl _ _ (H0.out) Try.underlying70 rfl (by kernel_rfl) ?_
                    go_simp
                    -- a call in a plain region: refine HNQ.out.mono ?_; rintro e wt ⟨rfl, hxt⟩ the contract taken, and its results named
                    refine wpList_plain rfl fun K1 hK1 => ?_
                    go_simp
                    refine HNQ.out.mono ?_; rintro e wt ⟨rfl, hxt⟩
                    go_simp
                    refine hK1 _ _ ?_
                    clear hK1 K1
                    -- memory has been made
                    replace HX := Lib.hid (HX.out.trans hxt)
                    replace H0 := Lib.hid (H0.out.ext hxt)
                    replace H1 := Lib.hid (H1.out.ext hxt)
                    try replace H2 := Lib.hid (H2.out.ext hxt)
                    try replace H3 := Lib.hid (H3.out.ext hxt)
                    try replace HS4 := Lib.hid (Strs.ext HS4.out hxt)
                    try replace HOA := Lib.hid (own_ext HOA.out hxt)
                    try replace HOR := Lib.hid (own_ext HOR.out hxt)
                    try replace HOH := Lib.hid (own_ext HOH.out hxt)
                    clear hxt
                    clear HNQ
                    refine wpList_plain rfl fun K1 hK1 => ?_
                    go_simp
                    refine hK1 _ _ ?_
                    clear hK1 K1
                    refine wpList_plain rfl fun K1 hK1 => ?_
                    go_simp
                    refine hK1 _ _ ?_
                    clear hK1 K1
                    refine wpList_plain rfl fun K1 hK1 => ?_
                    go_simp
                    refine hK1 _ _ ?_
                    clear hK1 K1
                    -- a state's row is put into box y0: (c2) cells, q3 place, qb3 bad, wt world, wu world behind
                    refine plain_store rfl _ _ _ rfl y0 (stL (c2) (.slice a ts.length k) q3 qb3) rfl rfl (H0.out) (by kernel_rfl) rfl (stL_one (c2) _ _ _ _ _) ?_
                    go_simp
                    replace HX := Lib.hid (show Ext w (wt.setRow y0 (stL (c2) (.slice a ts.length k) q3 qb3).toArray) from below_setRow HX.out (by have := HN.out; omega) _)
                    replace H1 := Lib.hid (row_far H1.out (stL (c2) (.slice a ts.length k) q3 qb3).toArray (show y1 ≠ y0 by have := HN.out; omega))
                    try replace HOA := Lib.hid (own_turn HOA.out H0.out (by decide) (setRow_grown wt y0 (stL (c2) (.slice a ts.length k) q3 qb3).toArray))
                    try replace HOR := Lib.hid (own_turn HOR.out H0.out (by decide) (setRow_grown wt y0 (stL (c2) (.slice a ts.length k) q3 qb3).toArray))
                    try replace HOH := Lib.hid (own_turn HOH.out H0.out (by decide) (setRow_grown wt y0 (stL (c2) (.slice a ts.length k) q3 qb3).toArray))
                    replace H0 := Lib.hid (H0.out.setRow (stL (c2) (.slice a ts.length k) q3 qb3))
                    try replace H2 := Lib.hid (row_far H2.out (stL (c2) (.slice a ts.length k) q3 qb3).toArray (show y2 ≠ y0 by have := HN.out; omega))
                    try replace HS4 := Lib.hid (HF4.out.stay HS4.out (y := y0) (by have := HN.out; omega) (stL (c2) (.slice a ts.length k) q3 qb3).toArray)
                    generalize wt.setRow y0 (stL (c2) (.slice a ts.length k) q3 qb3).toArray = wu at *
                    -- a cell of the state is written (three operations): 9 its place, (.int .i64 n3) the value, { c2 with off := n3 } cells c behind, q3 place p behind, qb3 bad behind, wu world, w10 world behind
                    have ff := H0.out.frozen 9
                    have dd := H0.out.cell (i := 9) rfl
                    refine wpList_plain rfl fun K1 hK1 => ?_
                    go_simp
                    refine hK1 _ _ ?_
                    clear hK1 K1
                    refine wpList_plain rfl fun K1 hK1 => ?_
                    go_simp
                    refine hK1 _ _ ?_
                    clear hK1 K1
                    refine wpList_plain rfl fun K1 hK1 => ?_
                    go_simp
                    refine hK1 _ _ ?_
                    clear hK1 K1
                    have hs := Lib.hid (show RowAt (wu.setCell ⟨y0, 9, none⟩ ((.int .i64 n3))) y0 70 (stL { c2 with off := n3 } (.slice a ts.length k) q3 qb3) from H0.out.set 9 ((.int .i64 n3)))
                    try replace HOA := Lib.hid (own_turn HOA.out H0.out (by decide) (grown_set wu y0 9 ((.int .i64 n3))))
                    try replace HOR := Lib.hid (own_turn HOR.out H0.out (by decide) (grown_set wu y0 9 ((.int .i64 n3))))
                    try replace HOH := Lib.hid (own_turn HOH.out H0.out (by decide) (grown_set wu y0 9 ((.int .i64 n3))))
                    replace H1 := Lib.hid (row_setk H1.out (z := y0) (by have := HN.out; omega) 9 ((.int .i64 n3)))
                    replace HX := Lib.hid (show Ext w (wu.setCell ⟨y0, 9, none⟩ ((.int .i64 n3))) from Ext.set_of HX.out (by have := HN.out; omega) _)
                    clear ff dd H0
                    have H0 := hs
                    clear hs
                    generalize wu.setCell ⟨y0, 9, none⟩ ((.int .i64 n3)) = w10 at *
                    apply wpList_nil
                    go_wp2_with fail
                    go_meet
                    have hb1 : qb1 = false := by
                      cases h : qb1 with
                      | false => rfl
                      | true => have := (HB2.out h).2; rw [HSG.out.1] at this; cases this
                    refine ⟨{ c2 with off := n3 }, q3, qb3, ⟨HX.out, H0.out, H1.out, HOA.out, HOR.out, HOH.out⟩, HLq3.out, fun e => (by rw [hb1] at e; cases e), fun _ => ?_⟩
                    have hp := page_no (HCN.out hb1) (HG2.out hb1) (q2 := q3) (qb2 := qb3) (m := n3) (fun e => (by rw [HSG.out.1] at e; cases e)) (fun _ => by
                      rw [if_pos HSG.out.2.2]
                      have h := numF_P ts (q2 + 1)
                      rw [HRq3.out] at h
                      cases hn : numP ts (q2 + 1) with
                      | error e => rw [hn] at h; obtain ⟨rfl, rfl⟩ := h; rfl
                      | ok r => obtain ⟨n, q⟩ := r; rw [hn] at h; cases h; rfl)
                    rw [hp]
                    simp only [HF2.out.1, HF2.out.2.1, HCZ.out.1, HCZ.out.2.1]
                  | false =>
                    go_wp2_with fail
                    go_meet
                    refine ⟨c2, q2, qb2, ⟨HX.out, H0.out, H1.out, HOA.out, HOR.out, HOH.out⟩, HQ2.out, HB2.out, fun hb1 => ?_⟩
                    have hp := page_no (HCN.out hb1) (HG2.out hb1) (q2 := q2) (qb2 := qb2) (m := 0) (fun e => ⟨rfl, e⟩) (fun e => by
                      subst e
                      have h2 := HK4.out
                      rw [saysR_P] at h2
                      rw [if_neg (by rw [h2]; decide), if_neg (by decide)])
                    rw [hp]
                    simp only [HF2.out.1, HF2.out.2.1, HF2.out.2.2, HCZ.out.1, HCZ.out.2.1, HCZ.out.2.2.2.2]
        case rest =>
          obtain ⟨c2, q2, qb2, htd, hq2, hbad, hgood⟩ := hcut
          -- told: the facts of a cut's world are laid anew: htd the fact TdI, w6 world's name
          obtain ⟨w6, rfl⟩ : ∃ z, z = wc := ⟨_, rfl⟩
          clear HX H0 H1 HOA HOR HOH
          have HX := Lib.hid (htd).ext
          have H0 := Lib.hid (htd).r0
          have H1 := Lib.hid (htd).r1
          have HOA := Lib.hid (htd).oa
          have HOR := Lib.hid (htd).ort
          have HOH := Lib.hid (htd).oh
          have HQ2 := Lib.hid hq2
          have HB2 := Lib.hid hbad
          have HG2 := Lib.hid hgood
          clear htd hq2 hbad hgood
          obtain ⟨C5, hc5⟩ : ∃ b, (saysR ts q2 qb2 wHint && decide (0 < V.length)) = b := ⟨_, rfl⟩
          have HC5 := Lib.hid hc5
          clear hc5
          go_upto_region 21 with fail
          go_cut [113] (fun s113 wx => s113 = .bool C5 ∧ Ext w6 wx)
          case first =>
            have hsy := saysQ (HTQ.out.ext HX.out) HQ2.out c2 qb2 wHint
            obtain ⟨sb, hsb⟩ : ∃ b, saysR ts q2 qb2 wHint = b := ⟨_, rfl⟩
            rw [hsb] at hsy
            have HSY := Lib.hid hsy
            have HSB := Lib.hid hsb
            clear hsy hsb
            obtain ⟨f0, f1, f2, f3, f4, f5, f6, f7, f8, f9, f10, f11⟩ := stQ_facts H0.out
            go_wp2_with fail
            refine HSY.out.mono ?_
            rintro e wk ⟨rfl, hxk⟩
            have HXK := Lib.hid hxk
            clear f0 f1 f2 f3 f4 f5 f6 f7 f8 f9 f10 f11
            clear hxk
            have hc := HC5.out
            rw [HSB.out] at hc
            cases sb with
            | false =>
              rw [Bool.false_and] at hc
              subst hc
              go_wp2_with fail
              go_meet
              exact ⟨rfl, HXK.out⟩
            | true =>
              rw [Bool.true_and] at hc
              subst hc
              go_wp2_with fail
              go_meet
              exact ⟨congrArg Value.bool (by simp), HXK.out⟩
          case rest =>
            obtain ⟨rfl, hxc⟩ := hcut
            obtain ⟨w7, rfl⟩ : ∃ z, z = wc := ⟨_, rfl⟩
            -- memory has been made
            replace HX := Lib.hid (HX.out.trans hxc)
            replace H0 := Lib.hid (H0.out.ext hxc)
            replace H1 := Lib.hid (H1.out.ext hxc)
            try replace H2 := Lib.hid (H2.out.ext hxc)
            try replace H3 := Lib.hid (H3.out.ext hxc)
            try replace HS4 := Lib.hid (Strs.ext HS4.out hxc)
            try replace HOA := Lib.hid (own_ext HOA.out hxc)
            try replace HOR := Lib.hid (own_ext HOR.out hxc)
            try replace HOH := Lib.hid (own_ext HOH.out hxc)
            clear hxc
            go_upto_if 113 with fail
            go_cut [113] (fun s113 wx => HiO w ts a k B y0 y1 A R1 V c2 q2 qb2 wx)
            case first =>
              cases C5 with
              | false =>
                have HTR : Hid (qb2 = false → toldHint ts V q2 = .ok ([], q2)) := Lib.hid (fun hb => by
                  have h := HC5.out
                  rw [hb, saysR_P] at h
                  unfold toldHint
                  rw [if_neg]
                  rintro ⟨h1, h2⟩
                  rw [h2, Bool.true_and, decide_eq_false_iff_not] at h
                  exact h (List.length_pos_iff.2 h1))
                go_wp2_with fail
                go_meet
                exact ⟨c2, q2, qb2, [], ⟨HX.out, H0.out, H1.out, HOA.out, HOR.out, HOH.out⟩, ⟨rfl, rfl, rfl, rfl, rfl⟩, HQ2.out, fun e => ⟨rfl, e⟩, fun e => by subst e; rw [HTR.out rfl]; rfl⟩
              | true =>
                have hsp : saysR ts q2 qb2 wHint = true ∧ 0 < V.length := by
                  have h := HC5.out
                  rw [Bool.and_eq_true] at h
                  exact ⟨h.1, of_decide_eq_true h.2⟩
                have HSP := Lib.hid hsp
                have HSR := Lib.hid hsp.1
                clear hsp
                -- a word is told and taken: HSR fact saysR .. = true, 22 region, q2 place, qb2 bad, HQ2.out within, c2 cells, w8 world behind; the place is then q2 + 1 (HSG: it is good, what the plain law says)
                have hsg := saysR_yes (HSR.out)
                have HSG := Lib.hid hsg
                clear hsg
                go_upto_region 22 with fail
                -- the document's state in box y0 is handed to take, and what comes is put back (the region's operations up to the store): c2 the state's cells c, q2 place, qb2 bad, 1 kind, HQ2.out place within, p1 new place, b1 new bad, x1 the text, w8 world behind. Facts: HTQ, HX, H0, H1, HN
                have htk := takeQ (HTQ.out.ext HX.out) (HQ2.out) c2 qb2 1 (by decide)
                obtain ⟨⟨p1, b1, x1⟩, hr⟩ : ∃ r, takeR ts 1 q2 qb2 = r := ⟨_, rfl⟩
                rw [hr] at htk
                dsimp only at htk
                have HTK := Lib.hid htk
                have HRp1 := Lib.hid hr
                have HPp1 := Lib.hid (show p1 ≤ ts.length by have h := takeR_le (ts := ts) (HQ2.out) (q := 1) (by decide) qb2; rw [hr] at h; exact h)
                clear htk hr
                apply wp_region_lit
                -- a load of a whole row: y0 block, H0.out fact RowAt, colanderref16.State the type's name
                refine plain_load rfl _ _ rfl y0 rfl _ _ (H0.out) Try.underlying70 rfl (by kernel_rfl) ?_
                go_simp
                -- a call in a plain region: refine HTK.out.mono ?_; rintro e wt ⟨rfl, hxt⟩ the contract taken, and its results named
                refine wpList_plain rfl fun K1 hK1 => ?_
                go_simp
                refine HTK.out.mono ?_; rintro e wt ⟨rfl, hxt⟩
                go_simp
                refine hK1 _ _ ?_
                clear hK1 K1
                -- memory has been made
                replace HX := Lib.hid (HX.out.trans hxt)
                replace H0 := Lib.hid (H0.out.ext hxt)
                replace H1 := Lib.hid (H1.out.ext hxt)
                try replace H2 := Lib.hid (H2.out.ext hxt)
                try replace H3 := Lib.hid (H3.out.ext hxt)
                try replace HS4 := Lib.hid (Strs.ext HS4.out hxt)
                try replace HOA := Lib.hid (own_ext HOA.out hxt)
                try replace HOR := Lib.hid (own_ext HOR.out hxt)
                try replace HOH := Lib.hid (own_ext HOH.out hxt)
                clear hxt
                refine wpList_plain rfl fun K1 hK1 => ?_
                go_simp
                refine hK1 _ _ ?_
                clear hK1 K1
                refine wpList_plain rfl fun K1 hK1 => ?_
                go_simp
                refine hK1 _ _ ?_
                clear hK1 K1
                refine wpList_plain rfl fun K1 hK1 => ?_
                go_simp
                refine hK1 _ _ ?_
                clear hK1 K1
                -- a state's row is put into box y0: (c2) cells, p1 place, b1 bad, wt world, w8 world behind
                refine plain_store rfl _ _ _ rfl y0 (stL (c2) (.slice a ts.length k) p1 b1) rfl rfl (H0.out) (by kernel_rfl) rfl (stL_one (c2) _ _ _ _ _) ?_
                go_simp
                replace HX := Lib.hid (show Ext w (wt.setRow y0 (stL (c2) (.slice a ts.length k) p1 b1).toArray) from below_setRow HX.out (by have := HN.out; omega) _)
                replace H1 := Lib.hid (row_far H1.out (stL (c2) (.slice a ts.length k) p1 b1).toArray (show y1 ≠ y0 by have := HN.out; omega))
                try replace HOA := Lib.hid (own_turn HOA.out H0.out (by decide) (setRow_grown wt y0 (stL (c2) (.slice a ts.length k) p1 b1).toArray))
                try replace HOR := Lib.hid (own_turn HOR.out H0.out (by decide) (setRow_grown wt y0 (stL (c2) (.slice a ts.length k) p1 b1).toArray))
                try replace HOH := Lib.hid (own_turn HOH.out H0.out (by decide) (setRow_grown wt y0 (stL (c2) (.slice a ts.length k) p1 b1).toArray))
                replace H0 := Lib.hid (H0.out.setRow (stL (c2) (.slice a ts.length k) p1 b1))
                try replace H2 := Lib.hid (row_far H2.out (stL (c2) (.slice a ts.length k) p1 b1).toArray (show y2 ≠ y0 by have := HN.out; omega))
                try replace HS4 := Lib.hid (HF4.out.stay HS4.out (y := y0) (by have := HN.out; omega) (stL (c2) (.slice a ts.length k) p1 b1).toArray)
                generalize wt.setRow y0 (stL (c2) (.slice a ts.length k) p1 b1).toArray = w8 at *
                clear HTK
                apply wpList_nil
                have hg : p1 = q2 + 1 ∧ b1 = false := by
                  have h := HRp1.out
                  rw [HSG.out.1, takeR_ok HSG.out.2.1] at h
                  cases h
                  exact ⟨rfl, rfl⟩
                obtain ⟨rfl, rfl⟩ := hg
                go_wp2_with fail
                go_loopg [121] V.length (fun g i wr => ∃ j : Nat, j ≤ V.length ∧ g = V.length - j ∧ i = .int .i64 j ∧ HiI w ts a k B y0 y1 A R1 V c2 q2 j wr)
                case atStart => exact ⟨0, Nat.zero_le _, rfl, rfl, c2, q2 + 1, false, [], ⟨HX.out, H0.out, H1.out, HOA.out, HOR.out, HOH.out⟩, ⟨rfl, rfl, rfl, rfl, rfl⟩, HPp1.out, Nat.zero_le _, rfl⟩
                case round =>
                  obtain ⟨j, hj, hg, rfl, c3, q3, qb3, H, htd, hfx3, hq3, hH, hret⟩ := hrel
                  clear HX H0 H1 HOA HOR HOH HPp1 HRp1
                  have HX := Lib.hid (htd).ext
                  have H0 := Lib.hid (htd).r0
                  have H1 := Lib.hid (htd).r1
                  have HOA := Lib.hid (htd).oa
                  have HOR := Lib.hid (htd).ort
                  have HOH := Lib.hid (htd).oh
                  have HG := Lib.hid hg
                  have HFX3 := Lib.hid hfx3
                  have HQ3 := Lib.hid hq3
                  have HHL := Lib.hid hH
                  have HRT := Lib.hid hret
                  clear htd hg hfx3 hq3 hH hret
                  by_cases hlt : j < V.length
                  · have hvq := varQ (HTQ.out.ext HX.out) HQ3.out c3 A (Sl.of_own HOA.out) (by have := HAL.out; omega) (.slice c3.a3 c3.n3 c3.k3) H B HOH.out (Nat.le_trans HBB.out HX.out.size) (by have := HVL2.out; have := HHL.out; omega) qb3
                    rw [HV.out] at hvq
                    have hvl := varF_le V H HQ3.out qb3
                    have hst := hintC_step ts V (V.length - (j + 1)) H q3 qb3
                    have hln := varF_len (ts := ts) V H (p := q3) qb3
                    obtain ⟨⟨q4, qb4, H4⟩, hq4⟩ : ∃ r, varF ts V H q3 qb3 = r := ⟨_, rfl⟩
                    rw [hq4] at hvq hvl hst hln
                    dsimp only at hvq hvl hst hln
                    have HVQ := Lib.hid hvq
                    have HVL1 := Lib.hid hvl
                    have HLN := Lib.hid hln
                    have HST : Hid (hintP ts V V.length [] (q2 + 1) = hintC ts V (V.length - (j + 1)) H4 q4 qb4) := Lib.hid (by
                      rw [HRT.out, ← hst, show V.length - j = V.length - (j + 1) + 1 by omega])
                    clear hvq hvl hst hln hq4
                    have d10 := H0.out.cell (i := 10) rfl
                    go_upto_region 25 with fail
                    apply wp_region_lit
                    -- a load of a whole row: y0 block, H0.out fact RowAt, colanderref16.State the type's name
                    refine plain_load rfl _ _ rfl y0 rfl _ _ (H0.out) Try.underlying70 rfl (by kernel_rfl) ?_
                    go_simp
                    refine wpList_plain rfl fun K1 hK1 => ?_
                    go_simp
                    refine hK1 _ _ ?_
                    clear hK1 K1
                    refine wpList_plain rfl fun K1 hK1 => ?_
                    go_simp
                    refine hK1 _ _ ?_
                    clear hK1 K1
                    refine wpList_plain rfl fun K1 hK1 => ?_
                    go_simp
                    refine hK1 _ _ ?_
                    clear hK1 K1
                    -- a call in a plain region: refine HVQ.out.mono ?_; rintro e wt ⟨u, rfl, hu, hxt⟩; obtain ⟨ua', uc', rfl⟩ := own_vw hu the contract taken, and its results named
                    refine wpList_plain rfl fun K1 hK1 => ?_
                    go_simp
                    refine HVQ.out.mono ?_; rintro e wt ⟨u, rfl, hu, hxt⟩; obtain ⟨ua', uc', rfl⟩ := own_vw hu
                    go_simp
                    refine hK1 _ _ ?_
                    clear hK1 K1
                    clear HOH d10
                    -- memory has been made
                    replace HX := Lib.hid (HX.out.trans hxt)
                    replace H0 := Lib.hid (H0.out.ext hxt)
                    replace H1 := Lib.hid (H1.out.ext hxt)
                    try replace H2 := Lib.hid (H2.out.ext hxt)
                    try replace H3 := Lib.hid (H3.out.ext hxt)
                    try replace HS4 := Lib.hid (Strs.ext HS4.out hxt)
                    try replace HOA := Lib.hid (own_ext HOA.out hxt)
                    try replace HOR := Lib.hid (own_ext HOR.out hxt)
                    try replace HOH := Lib.hid (own_ext HOH.out hxt)
                    clear hxt
                    have HOH := Lib.hid hu
                    clear hu HVQ
                    refine wpList_plain rfl fun K1 hK1 => ?_
                    go_simp
                    refine hK1 _ _ ?_
                    clear hK1 K1
                    refine wpList_plain rfl fun K1 hK1 => ?_
                    go_simp
                    refine hK1 _ _ ?_
                    clear hK1 K1
                    refine wpList_plain rfl fun K1 hK1 => ?_
                    go_simp
                    refine hK1 _ _ ?_
                    clear hK1 K1
                    -- a state's row is put into box y0: c3 cells, q4 place, qb4 bad, wt world, w9 world behind
                    refine plain_store rfl _ _ _ rfl y0 (stL c3 (.slice a ts.length k) q4 qb4) rfl rfl (H0.out) (by kernel_rfl) rfl (stL_one c3 _ _ _ _ _) ?_
                    go_simp
                    replace HX := Lib.hid (show Ext w (wt.setRow y0 (stL c3 (.slice a ts.length k) q4 qb4).toArray) from below_setRow HX.out (by have := HN.out; omega) _)
                    replace H1 := Lib.hid (row_far H1.out (stL c3 (.slice a ts.length k) q4 qb4).toArray (show y1 ≠ y0 by have := HN.out; omega))
                    try replace HOA := Lib.hid (own_turn HOA.out H0.out (by decide) (setRow_grown wt y0 (stL c3 (.slice a ts.length k) q4 qb4).toArray))
                    try replace HOR := Lib.hid (own_turn HOR.out H0.out (by decide) (setRow_grown wt y0 (stL c3 (.slice a ts.length k) q4 qb4).toArray))
                    try replace HOH := Lib.hid (own_turn HOH.out H0.out (by decide) (setRow_grown wt y0 (stL c3 (.slice a ts.length k) q4 qb4).toArray))
                    replace H0 := Lib.hid (H0.out.setRow (stL c3 (.slice a ts.length k) q4 qb4))
                    try replace H2 := Lib.hid (row_far H2.out (stL c3 (.slice a ts.length k) q4 qb4).toArray (show y2 ≠ y0 by have := HN.out; omega))
                    try replace HS4 := Lib.hid (HF4.out.stay HS4.out (y := y0) (by have := HN.out; omega) (stL c3 (.slice a ts.length k) q4 qb4).toArray)
                    generalize wt.setRow y0 (stL c3 (.slice a ts.length k) q4 qb4).toArray = w9 at *
                    -- a cell of the state is written (three operations): 10 its place, (.slice ua' H4.length uc') the value, { c3 with a3 := ua', n3 := H4.length, k3 := uc' } cells c behind, q4 place p behind, qb4 bad behind, w9 world, w10 world behind
                    have ff := H0.out.frozen 10
                    have dd := H0.out.cell (i := 10) rfl
                    refine wpList_plain rfl fun K1 hK1 => ?_
                    go_simp
                    refine hK1 _ _ ?_
                    clear hK1 K1
                    refine wpList_plain rfl fun K1 hK1 => ?_
                    go_simp
                    refine hK1 _ _ ?_
                    clear hK1 K1
                    refine wpList_plain rfl fun K1 hK1 => ?_
                    go_simp
                    refine hK1 _ _ ?_
                    clear hK1 K1
                    have hs := Lib.hid (show RowAt (w9.setCell ⟨y0, 10, none⟩ ((.slice ua' H4.length uc'))) y0 70 (stL { c3 with a3 := ua', n3 := H4.length, k3 := uc' } (.slice a ts.length k) q4 qb4) from H0.out.set 10 ((.slice ua' H4.length uc')))
                    try replace HOA := Lib.hid (own_turn HOA.out H0.out (by decide) (grown_set w9 y0 10 ((.slice ua' H4.length uc'))))
                    try replace HOR := Lib.hid (own_turn HOR.out H0.out (by decide) (grown_set w9 y0 10 ((.slice ua' H4.length uc'))))
                    try replace HOH := Lib.hid (own_turn HOH.out H0.out (by decide) (grown_set w9 y0 10 ((.slice ua' H4.length uc'))))
                    replace H1 := Lib.hid (row_setk H1.out (z := y0) (by have := HN.out; omega) 10 ((.slice ua' H4.length uc')))
                    replace HX := Lib.hid (show Ext w (w9.setCell ⟨y0, 10, none⟩ ((.slice ua' H4.length uc'))) from Ext.set_of HX.out (by have := HN.out; omega) _)
                    clear ff dd H0
                    have H0 := hs
                    clear hs
                    generalize w9.setCell ⟨y0, 10, none⟩ ((.slice ua' H4.length uc')) = w10 at *
                    apply wpList_nil
                    go_wp2_with fail
                    go_roundg (V.length - (j + 1))
                    case measure => have := HG.out; omega
                    case rel => exact ⟨j + 1, by omega, rfl, by go_num, { c3 with a3 := ua', n3 := H4.length, k3 := uc' }, q4, qb4, H4, ⟨HX.out, H0.out, H1.out, HOA.out, HOR.out, HOH.out⟩, HFX3.out, HVL1.out, by have := HLN.out; have := HHL.out; omega, HST.out⟩
                  · have HJ := Lib.hid (show j = V.length by omega)
                    go_wp2_with fail
                    go_meet
                    refine ⟨c3, q3, qb3, H, ⟨HX.out, H0.out, H1.out, HOA.out, HOR.out, HOH.out⟩, HFX3.out, HQ3.out, fun e => (by rw [HSG.out.1] at e; cases e), fun _ => ?_⟩
                    unfold toldHint
                    rw [if_pos ⟨List.length_pos_iff.1 HSP.out.2, HSG.out.2.2⟩, HRT.out, HJ.out, Nat.sub_self]
                    unfold hintC hintP
                    rfl
            case rest =>
              obtain ⟨c3, q3, qb3, H, htd, hfx3, hq3, hbad, hgood⟩ := hcut
              -- told: the facts of a cut's world are laid anew: htd the fact TdI, w8 world's name
              obtain ⟨w8, rfl⟩ : ∃ z, z = wc := ⟨_, rfl⟩
              clear HX H0 H1 HOA HOR HOH
              have HX := Lib.hid (htd).ext
              have H0 := Lib.hid (htd).r0
              have H1 := Lib.hid (htd).r1
              have HOA := Lib.hid (htd).oa
              have HOR := Lib.hid (htd).ort
              have HOH := Lib.hid (htd).oh
              have HFX3 := Lib.hid hfx3
              have HQ3 := Lib.hid hq3
              have HB3 := Lib.hid hbad
              have HG3 := Lib.hid hgood
              clear htd hfx3 hq3 hbad hgood
              go_upto_region 27 with fail
              -- the state of box y0 is handed on in box y1: c3 cells, q3 place, qb3 bad, w8 world, wend world behind (the region's load and store)
              apply wp_region_lit
              -- a load of a whole row: y0 block, H0.out fact RowAt, colanderref16.State the type's name
              refine plain_load rfl _ _ rfl y0 rfl _ _ (H0.out) Try.underlying70 rfl (by kernel_rfl) ?_
              go_simp
              refine plain_store rfl _ _ _ rfl y1 (stL c3 (.slice a ts.length k) q3 qb3) rfl rfl (H1.out) (by kernel_rfl) rfl (stL_one c3 _ _ _ _ _) ?_
              go_simp
              replace HX := Lib.hid (show Ext w (w8.setRow y1 (stL c3 (.slice a ts.length k) q3 qb3).toArray) from below_setRow HX.out (by have := HN.out; omega) _)
              try replace HOA := Lib.hid (own_turn HOA.out H1.out (by decide) (setRow_grown w8 y1 (stL c3 (.slice a ts.length k) q3 qb3).toArray))
              try replace HOR := Lib.hid (own_turn HOR.out H1.out (by decide) (setRow_grown w8 y1 (stL c3 (.slice a ts.length k) q3 qb3).toArray))
              try replace HOH := Lib.hid (own_turn HOH.out H1.out (by decide) (setRow_grown w8 y1 (stL c3 (.slice a ts.length k) q3 qb3).toArray))
              replace H1 := Lib.hid (H1.out.setRow (stL c3 (.slice a ts.length k) q3 qb3))
              clear H0
              generalize w8.setRow y1 (stL c3 (.slice a ts.length k) q3 qb3).toArray = wend at *
              apply wpList_nil
              go_wp2_with fail
              refine bodyPost_ret (results_row0 rfl rfl H1.out Try.underlying70 rfl (by kernel_rfl)) rfl ⟨c3, q3, qb3, ⟨A, R1, c3.cn, c3.ds, c3.lm, c3.li, c3.off, H⟩, rfl, ⟨HOA.out, HOR.out, HOH.out, rfl, rfl, rfl, rfl, rfl⟩, HQ3.out, ?_, ?_, HX.out⟩
              · intro hb
                obtain ⟨e1, b1⟩ := HB1.out hb
                obtain ⟨e2, b2⟩ := HB2.out b1
                obtain ⟨e3, b3⟩ := HB3.out b2
                exact ⟨by rw [e3, e2, e1], b3⟩
              · intro hb _
                unfold toldP
                dsimp only
                rw [HV.out, HG1.out hb]
                cases h1 : qb1 with
                | true =>
                  obtain ⟨e2, b2⟩ := HB2.out h1
                  obtain ⟨e3, b3⟩ := HB3.out b2
                  rw [b3, e3, e2]; rfl
                | false =>
                  simp only [Except.bind, Bool.false_eq_true, if_false]
                  rw [HG2.out h1]
                  cases h2 : qb2 with
                  | true =>
                    obtain ⟨e3, b3⟩ := HB3.out h2
                    rw [b3, e3]; rfl
                  | false =>
                    simp only [Bool.false_eq_true, if_false]
                    rw [HG3.out h2]
                    obtain ⟨z1, z2, z3, z4, z5⟩ := HFX3.out
                    cases h3 : qb3 with
                    | true => rfl
                    | false => simp only [Bool.false_eq_true, if_false, z1, z2, z3, z4, z5]
end Go.Proofs.Ytngnplghjaojhaa
