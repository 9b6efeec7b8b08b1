/- ParseMay: the walk. -/
import Derived.Test.YtngnplghjaojhaaParD3
import Derived.Test.YtngnplghjaojhaaParD2
import Derived.Test.YtngnplghjaojhaaParY3
import Derived.Test.YtngnplghjaojhaaGenX4
namespace Go.Proofs.Ytngnplghjaojhaa
set_option maxRecDepth 100000
set_option maxHeartbeats 2000000
set_option linter.unusedSimpArgs false
open Go.RowKit Go.Shelf Go.Sort
attribute [local go_sem] Oper.semAt_some wide_fn wide_depth
set_option linter.unusedVariables false

theorem Atm.Near.fits {a : Atm} (h : a.Near) : a.Fits := by
  obtain ⟨h1, h2, h3, h4, _, _⟩ := h
  unfold reachBytes at h1 h2 h3 h4
  exact ⟨by omega, by omega, by omega, by omega⟩
theorem cutP_fits {P : Pat} (h : P.Near) : (cutP P).Fits :=
  ⟨fun a ha => (h.1 a (List.mem_of_mem_take ha)).fits, by show (P.atoms.take 42).length ≤ 100000; rw [List.length_take]; omega⟩
/-- A pattern of the call's own. -/
def OwnP (B : Nat) (P : Pat) (W : World) (c : Value) : Prop := PatIn B W c P
theorem OwnP.firm (B : Nat) (P : Pat) : Firm 26 26 (OwnP B P) :=
  ⟨fun hx ⟨av, rv, hv, e, h1, h2, h3⟩ => ⟨av, rv, hv, e, own_ext h1 hx, own_ext h2 hx, own_ext h3 hx⟩, fun hr ht ⟨av, rv, hv, e, h1, h2, h3⟩ => by
    have hs : (9 : TypeId) ≠ 26 := by decide
    have hn : (64 : TypeId) ≠ 26 := by decide
    rcases ht with rfl | rfl
    · exact ⟨av, rv, hv, e, own_setC_ne h1 hr hn _ _, own_setC_ne h2 hr hs _ _, own_setC_ne h3 hr hs _ _⟩
    · exact ⟨av, rv, hv, e, own_setC_ne h1 hr hn _ _, own_setC_ne h2 hr hs _ _, own_setC_ne h3 hr hs _ _⟩⟩
theorem OwnP.shape {B : Nat} {P : Pat} {W : World} {c : Value} (h : OwnP B P W c) : ∃ a1 c1 a2 c2 a3 c3, c = .agg #[.slice a1 P.atoms.length c1, .slice a2 P.ret.length c2, .bool P.count, .bool P.distinct, .bool P.limited, .int .i64 P.limit, .int .i64 P.offset, .slice a3 P.hint.length c3] := by
  obtain ⟨av, rv, hv, rfl, h1, h2, h3⟩ := h
  obtain ⟨a1, c1, rfl⟩ := own_vw h1
  obtain ⟨a2, c2, rfl⟩ := own_vw h2
  obtain ⟨a3, c3, rfl⟩ := own_vw h3
  exact ⟨_, _, _, _, _, _, rfl⟩
theorem own_p (w0 : World) (v : Value) (P : Pat) (W : World) (hx : Ext w0 W) (hV : PatAt w0 v P) :
    Calls Try.prog 22 #[v] W fun e w' => ∃ u, e = .returned u ∧ OwnP w0.heap.size (cutP P) w' u ∧ Ext W w' :=
  (ownP_any v P W (hV.ext hx)).mono fun e w' ⟨u, he, ⟨av, rv, hv, e1, h1, h2, h3⟩, hx'⟩ => ⟨_, he, ⟨av, rv, hv, e1, own_base h1 hx.size, own_base h2 hx.size, own_base h3 hx.size⟩, hx'⟩
def depY : Nat → List Nat
  | 1 => [0]
  | 3 => [2]
  | 6 => [1, 4]
  | 7 => [3, 5]
  | _ => []
theorem PatIn.ext {B : Nat} {w w' : World} {v : Value} {P : Pat} (h : PatIn B w v P) (hx : Ext w w') : PatIn B w' v P := by
  obtain ⟨av, rv, hv, e, h1, h2, h3⟩ := h
  exact ⟨av, rv, hv, e, own_ext h1 hx, own_ext h2 hx, own_ext h3 hx⟩
def zcells : List Value := [.slice none 0 0, .slice none 0 0, .bool false, .bool false, .bool false, .int .i64 0, .int .i64 0, .slice none 0 0]
def groY9 : Nat → Gro
  | 12 => .read
  | 13 => .read
  | 14 => .grow
  | 15 => .read
  | 16 => .read
  | 17 => .grow
  | 21 => .read
  | 22 => .read
  | 23 => .grow
  | 24 => .grow
  | 27 => .read
  | 28 => .grow
  | 30 => .grow
  | 33 => .read
  | 34 => .read
  | 35 => .grow
  | 36 => .grow
  | _ => .pure
set_option maxRecDepth 100000 in
set_option maxHeartbeats 4000000 in
theorem pmay_walk (v0 : Value) (v1 : Value) (w : World) (h0 : ∃ P : Pat, PatAt w v0 P ∧ P.Near) (h1 : ∃ P : Pat, PatAt w v1 P ∧ P.Near) :
    Calls Try.prog 6 #[v0, v1] w fun e w' => e = .returned (.bool true) ∧ Ext w w' := by
  have hmo : Try.prog.follows .mixedOrders = true := by kernel_rfl
  obtain ⟨P, hP, hn0⟩ := h0
  obtain ⟨P2, hP2, hn2⟩ := h1
  have HV := Lib.hid hP
  have HV2 := Lib.hid hP2
  have HSZ := Lib.hid (cutP_fits hn0)
  have HSZ2 := Lib.hid (cutP_fits hn2)
  obtain ⟨av, rv, hv, rfl, ha, hr, hh⟩ := hP
  obtain ⟨av2, rv2, hv2, rfl, ha2, hr2, hh2⟩ := hP2
  clear hn0 hn2 ha hr hh ha2 hr2 hh2
  unfold patV patL at HV HV2 ⊢
  obtain ⟨b1, hb1⟩ : ∃ b, P.count = b := ⟨_, rfl⟩
  obtain ⟨b2, hb2⟩ : ∃ b, P.distinct = b := ⟨_, rfl⟩
  obtain ⟨b3, hb3⟩ : ∃ b, P.limited = b := ⟨_, rfl⟩
  obtain ⟨b4, hb4⟩ : ∃ b, P.limit = b := ⟨_, rfl⟩
  obtain ⟨b5, hb5⟩ : ∃ b, P.offset = b := ⟨_, rfl⟩
  obtain ⟨e1, he1⟩ : ∃ b, P2.count = b := ⟨_, rfl⟩
  obtain ⟨e2, he2⟩ : ∃ b, P2.distinct = b := ⟨_, rfl⟩
  obtain ⟨e3, he3⟩ : ∃ b, P2.limited = b := ⟨_, rfl⟩
  obtain ⟨e4, he4⟩ : ∃ b, P2.limit = b := ⟨_, rfl⟩
  obtain ⟨e5, he5⟩ : ∃ b, P2.offset = b := ⟨_, rfl⟩
  rw [hb1, hb2, hb3, hb4, hb5] at HV ⊢
  rw [he1, he2, he3, he4, he5] at HV2 ⊢
  clear hb1 hb2 hb3 hb4 hb5 he1 he2 he3 he4 he5
  obtain ⟨A, hA⟩ : ∃ l, [av, rv, Value.bool b1, .bool b2, .bool b3, .int .i64 b4, .int .i64 b5, hv] = l := ⟨_, rfl⟩
  obtain ⟨A2, hA2⟩ : ∃ l, [av2, rv2, Value.bool e1, .bool e2, .bool e3, .int .i64 e4, .int .i64 e5, hv2] = l := ⟨_, rfl⟩
  have HA := Lib.hid hA
  have HA2 := Lib.hid hA2
  have hx0 : Ext w ((w.alloc (.cells A.toArray 26)).alloc (.cells A2.toArray 26)) := (Ext.alloc _ _).trans (Ext.alloc _ _)
  have hb0 : RowAt ((w.alloc (.cells A.toArray 26)).alloc (.cells A2.toArray 26)) w.heap.size 26 A := (RowAt.new w _ A).ext (Ext.alloc _ _)
  have hb1 : RowAt ((w.alloc (.cells A.toArray 26)).alloc (.cells A2.toArray 26)) (w.heap.size + 1) 26 A2 := row_at (xs := A2) (by simp)
  rw [← hA, ← hA2] at hx0 hb0 hb1
  have HB := Lib.hid hb0
  have HB2 := Lib.hid hb1
  have HX := Lib.hid hx0
  clear hb0 hb1 hx0 hA hA2 HA HA2 A A2
  go_enter Try.func6, Try.ntmps6
  go_upto_region 1 with fail
  generalize (w.alloc (.cells #[av, rv, .bool b1, .bool b2, .bool b3, .int .i64 b4, .int .i64 b5, hv] 26)).alloc (.cells #[av2, rv2, .bool e1, .bool e2, .bool e3, .int .i64 e4, .int .i64 e5, hv2] 26) = wa at *
  go_wp2_with fail
  refine (wakesP_any _).mono ?_
  rintro e w1 ⟨rfl, hx1⟩
  replace HB := Lib.hid (HB.out.ext hx1)
  replace HB2 := Lib.hid (HB2.out.ext hx1)
  replace HX := Lib.hid (HX.out.trans hx1)
  clear hx1
  go_upto_region 3 with fail
  refine wp_region_inv [12, 13, 14, 15, 5, 6] _ depY (PairG w1 (.agg #[av, rv, .bool b1, .bool b2, .bool b3, .int .i64 b4, .int .i64 b5, hv]) (.agg #[av2, rv2, .bool e1, .bool e2, .bool e3, .int .i64 e4, .int .i64 e5, hv2]) (OwnP w1.heap.size (cutP P)) (OwnP w1.heap.size (cutP P2)) 26 26 zcells zcells) hmo (by kernel_rfl) (by kernel_rfl) (puts_self _ _) (PairG.start _ rfl (Ext.drewN w1 1)) ?_ ?_
  · refine ⟨?_, ?_, ?_, ?_, ?_, ?_, ?_, ?_, trivial⟩
    all_goals
      rintro S us wq hd hn ⟨l0, c0, l1, c1, x0, x1, rfl, hF⟩ K hK
      have hK' := fun l0 c0 l1 c1 x0 x1 w' h => hK [l0, c0, l1, c1, x0, x1] w' h
      clear hK
      have hxq : Ext w1 wq := hF.ext
      have HXQ := Lib.hid hxq
      clear hxq
      simp only [puts, Act.put] at hK' ⊢
      have HK := Lib.hid hK'
      have HF := Lib.hid hF
      have HN := Lib.hid hn
      have HD := Lib.hid hd
      clear hK' hF hn hd
    · have hrr := HB.out.ext HXQ.out
      have hf := row8_facts hrr
      have d0 := hf.1
      have d1 := hf.2.1
      have d2 := hf.2.2.1
      have d3 := hf.2.2.2.1
      have d4 := hf.2.2.2.2.1
      have d5 := hf.2.2.2.2.2.1
      have d6 := hf.2.2.2.2.2.2.1
      have d7 := hf.2.2.2.2.2.2.2
      clear hf
      clear hrr
      go_simp
      exact HK.out _ c0 l1 c1 x0 x1 wq HF.out.load0
    · have hc := HD.out 0 (by decide)
      have hl := HF.out.a0 hc
      have hq := own_p w1 _ P wq HXQ.out (HV.out.ext HX.out)
      rw [← hl] at hq
      have HQ := Lib.hid (hq)
      clear hc hl hq
      go_simp
      refine HQ.out.mono ?_
      rintro e wy ⟨u, rfl, hou, hxu⟩
      exact HK.out l0 u l1 c1 x0 x1 wy (HF.out.call0 (OwnP.firm _ _) HN.out hxu hou)
    · have hrr := HB2.out.ext HXQ.out
      have hf := row8_facts hrr
      have d0 := hf.1
      have d1 := hf.2.1
      have d2 := hf.2.2.1
      have d3 := hf.2.2.2.1
      have d4 := hf.2.2.2.2.1
      have d5 := hf.2.2.2.2.2.1
      have d6 := hf.2.2.2.2.2.2.1
      have d7 := hf.2.2.2.2.2.2.2
      clear hf
      clear hrr
      go_simp
      exact HK.out l0 c0 _ c1 x0 x1 wq HF.out.load1
    · have hc := HD.out 2 (by decide)
      have hl := HF.out.a2 hc
      have hq := own_p w1 _ P2 wq HXQ.out (HV2.out.ext HX.out)
      rw [← hl] at hq
      have HQ := Lib.hid (hq)
      clear hc hl hq
      go_simp
      refine HQ.out.mono ?_
      rintro e wy ⟨u, rfl, hou, hxu⟩
      exact HK.out l0 c0 l1 u x0 x1 wy (HF.out.call1 (OwnP.firm _ _) HN.out hxu hou)
    · have hk := HK.out l0 c0 l1 c1 _ x1 _ (HF.out.new0 (OwnP.firm _ _) (OwnP.firm _ _) HN.out)
      go_simp
      exact hk
    · have hk := HK.out l0 c0 l1 c1 x0 _ _ (HF.out.new1 (OwnP.firm _ _) (OwnP.firm _ _) HN.out)
      go_simp
      exact hk
    · have h1 := HD.out 1 (by decide)
      have h4 := HD.out 4 (by decide)
      have hou := OwnP.shape (HF.out.a1 h1)
      have hbx := HF.out.a4 h4
      revert hou hbx
      refine fun ⟨k1, l1', k2, l2', k3, l3', hB⟩ ⟨g, hg, _, hrow⟩ => ?_
      rw [if_neg (by rw [HN.out]; simp)] at hrow
      have hk := HK.out l0 c0 l1 c1 x0 x1 _ (HF.out.store0 (OwnP.firm _ _) (OwnP.firm _ _) h1 HN.out hg h4 (by rw [hB]; rfl))
      subst hB hg
      unfold zcells at hrow
      have hf := row8_facts hrow
      have d0 := hf.1
      have d1 := hf.2.1
      have d2 := hf.2.2.1
      have d3 := hf.2.2.2.1
      have d4 := hf.2.2.2.2.1
      have d5 := hf.2.2.2.2.2.1
      have d6 := hf.2.2.2.2.2.2.1
      have d7 := hf.2.2.2.2.2.2.2
      clear hf
      have g0 := hrow.frozen 0
      have g1 := hrow.frozen 1
      have g2 := hrow.frozen 2
      have g3 := hrow.frozen 3
      have g4 := hrow.frozen 4
      have g5 := hrow.frozen 5
      have g6 := hrow.frozen 6
      have g7 := hrow.frozen 7
      clear hrow
      have HKK := Lib.hid hk
      clear hk h1 h4
      go_simp
      exact HKK.out
    · have h1 := HD.out 3 (by decide)
      have h4 := HD.out 5 (by decide)
      have hou := OwnP.shape (HF.out.a3 h1)
      have hbx := HF.out.a5 h4
      revert hou hbx
      refine fun ⟨k1, l1', k2, l2', k3, l3', hB⟩ ⟨g, hg, _, hrow⟩ => ?_
      rw [if_neg (by rw [HN.out]; simp)] at hrow
      have hk := HK.out l0 c0 l1 c1 x0 x1 _ (HF.out.store1 (OwnP.firm _ _) (OwnP.firm _ _) h1 HN.out hg h4 (by rw [hB]; rfl))
      subst hB hg
      unfold zcells at hrow
      have hf := row8_facts hrow
      have d0 := hf.1
      have d1 := hf.2.1
      have d2 := hf.2.2.1
      have d3 := hf.2.2.2.1
      have d4 := hf.2.2.2.2.1
      have d5 := hf.2.2.2.2.2.1
      have d6 := hf.2.2.2.2.2.2.1
      have d7 := hf.2.2.2.2.2.2.2
      clear hf
      have g0 := hrow.frozen 0
      have g1 := hrow.frozen 1
      have g2 := hrow.frozen 2
      have g3 := hrow.frozen 3
      have g4 := hrow.frozen 4
      have g5 := hrow.frozen 5
      have g6 := hrow.frozen 6
      have g7 := hrow.frozen 7
      clear hrow
      have HKK := Lib.hid hk
      clear hk h1 h4
      go_simp
      exact HKK.out
  · rintro S us wq hall ⟨l0, c0, l1, c1, x0, x1, rfl, hF⟩
    have hoB := hF.a1 (hall 1 (by decide))
    have hoB2 := hF.a3 (hall 3 (by decide))
    obtain ⟨g, rfl, hg, hrow⟩ := hF.a4 (hall 4 (by decide))
    obtain ⟨g2, rfl, hg2, hrow2⟩ := hF.a5 (hall 5 (by decide))
    obtain rfl := hF.a0 (hall 0 (by decide))
    obtain rfl := hF.a2 (hall 2 (by decide))
    rw [if_pos (hall 6 (by decide))] at hrow
    rw [if_pos (hall 7 (by decide))] at hrow2
    have HVB := Lib.hid (PatIn.at_ hoB)
    have HVB2 := Lib.hid (PatIn.at_ hoB2)
    obtain ⟨u1, u2, u3, rfl, hoa, hob, hoc⟩ := hoB
    obtain ⟨y1, y2, y3, rfl, hpa, hpb, hpc⟩ := hoB2
    obtain ⟨ua1, uc1, rfl⟩ := own_vw hoa
    obtain ⟨ua2, uc2, rfl⟩ := own_vw hob
    obtain ⟨ua3, uc3, rfl⟩ := own_vw hoc
    obtain ⟨ya1, yc1, rfl⟩ := own_vw hpa
    obtain ⟨ya2, yc2, rfl⟩ := own_vw hpb
    obtain ⟨ya3, yc3, rfl⟩ := own_vw hpc
    have HAT := Lib.hid (show Ats wq (.slice ua1 (cutP P).atoms.length uc1) (cutP P).atoms from Sl.of_own hoa)
    replace HB := Lib.hid (HB.out.ext hF.ext)
    replace HX := Lib.hid (HX.out.trans hF.ext)
    have hrow' : RowAt wq g 26 (patL (.slice ua1 (cutP P).atoms.length uc1) (.slice ua2 (cutP P).ret.length uc2) (.slice ua3 (cutP P).hint.length uc3) (cutP P)) := hrow
    have hrow2' : RowAt wq g2 26 (patL (.slice ya1 (cutP P2).atoms.length yc1) (.slice ya2 (cutP P2).ret.length yc2) (.slice ya3 (cutP P2).hint.length yc3) (cutP P2)) := hrow2
    have HBB := Lib.hid hrow'
    have HBB2 := Lib.hid hrow2'
    clear hF hrow hrow2 hrow' hrow2' hoa hob hoc hpa hpb hpc hg hg2 hall HB2
    simp only [puts, Act.put]
    clear S
    generalize cutP P2 = Q2 at *
    have HOW := Lib.hid (fun w' (hx : Ext w w') => ownP_any _ P w' (HV.out.ext hx))
    generalize cutP P = Q at *
    unfold patV patL at *
    obtain ⟨q1, hq1⟩ : ∃ b, Q.count = b := ⟨_, rfl⟩
    obtain ⟨q2, hq2⟩ : ∃ b, Q.distinct = b := ⟨_, rfl⟩
    obtain ⟨q3, hq3⟩ : ∃ b, Q.limited = b := ⟨_, rfl⟩
    obtain ⟨q4, hq4⟩ : ∃ b, Q.limit = b := ⟨_, rfl⟩
    obtain ⟨q5, hq5⟩ : ∃ b, Q.offset = b := ⟨_, rfl⟩
    obtain ⟨r1, hr1⟩ : ∃ b, Q2.count = b := ⟨_, rfl⟩
    obtain ⟨r2, hr2⟩ : ∃ b, Q2.distinct = b := ⟨_, rfl⟩
    obtain ⟨r3, hr3⟩ : ∃ b, Q2.limited = b := ⟨_, rfl⟩
    obtain ⟨r4, hr4⟩ : ∃ b, Q2.limit = b := ⟨_, rfl⟩
    obtain ⟨r5, hr5⟩ : ∃ b, Q2.offset = b := ⟨_, rfl⟩
    rw [hq1, hq2, hq3, hq4, hq5] at HVB HBB
    rw [hr1, hr2, hr3, hr4, hr5] at HVB2 HBB2 ⊢
    clear hq1 hq2 hq3 hq4 hq5 hr1 hr2 hr3 hr4 hr5
    have HRI := Lib.hid (right16_any _ Q wq HVB.out HSZ.out)
    obtain ⟨d0, d1, d2, d3, d4, d5, d6, d7⟩ := row8_facts HBB.out
    go_wp2_with fail
    refine HRI.out.mono ?_
    rintro e w4 ⟨rfl, hx4⟩
    clear d0 d1 d2 d3 d4 d5 d6 d7 HRI
    have hcr : (Q.okB = true ∧ checkE Q = 0 ∧ varsE Q = varsS Q.atoms) ∨ (Q.okB = false ∧ checkE Q = 261 ∧ varsE Q = []) := by
      unfold checkE varsE
      cases h : Q.okB
      · exact .inr ⟨rfl, rfl, rfl⟩
      · exact .inl ⟨rfl, rfl, rfl⟩
    have HCR := Lib.hid hcr
    clear hcr
    obtain ⟨r, hr⟩ : ∃ r, Q.okB = r := ⟨_, rfl⟩
    rw [hr] at HCR ⊢
    clear hr
    obtain ⟨ck, hck⟩ : ∃ r, checkE Q = r := ⟨_, rfl⟩
    have HCK := Lib.hid (fun w' (hx : Ext wq w') => checkP_any _ Q w' (HVB.out.ext hx) HSZ.out)
    have HVP := Lib.hid (fun w' (hx : Ext wq w') => varsP_any _ Q w' (HVB.out.ext hx) HSZ.out)
    rw [hck] at HCK HCR
    clear hck
    have HX4 := Lib.hid hx4
    clear hx4
    go_upto_if 18 with fail
    go_cut [8] (fun s8 wx => Strs wx s8 (varsE Q) ∧ Ext wq wx)
    case first =>
      rcases HCR.out with ⟨rfl, _, hv⟩ | ⟨rfl, _, hv⟩
      · have HVS := Lib.hid (varsS_any _ Q.atoms w4 (HAT.out.ext HX4.out) (by have := HSZ.out.few; omega))
        rw [← hv] at HVS
        clear hv
        obtain ⟨d0, d1, d2, d3, d4, d5, d6, d7⟩ := row8_facts (HBB.out.ext HX4.out)
        go_wp2_with fail
        refine HVS.out.mono ?_
        rintro e w5 ⟨u, rfl, hu, hx5⟩
        have HR := Lib.hid (show Strs w5 u (varsE Q) ∧ Ext wq w5 from ⟨hu, HX4.out.trans hx5⟩)
        clear hu hx5 d0 d1 d2 d3 d4 d5 d6 d7
        go_wp2_with fail
        go_meet
        exact HR.out
      · go_wp2_with fail
        go_meet
        exact ⟨by rw [hv]; exact Sl.nil _, HX4.out⟩
    case rest =>
      obtain ⟨hs8, hwx⟩ := hcut
      have HS8 := Lib.hid hs8
      have HX5 := Lib.hid hwx
      clear hs8 hwx HX4
      have HC1 := Lib.hid (HCK.out wc HX5.out)
      obtain ⟨d0, d1, d2, d3, d4, d5, d6, d7⟩ := row8_facts (HBB.out.ext HX5.out)
      go_wp2_with fail
      refine HC1.out.mono ?_
      rintro e w5 ⟨rfl, hx5⟩
      clear d0 d1 d2 d3 d4 d5 d6 d7 HC1
      replace HS8 := Lib.hid (Strs.ext HS8.out hx5)
      replace HX5 := Lib.hid (HX5.out.trans hx5)
      clear hx5
      go_upto_region 9 with fail
      refine wp_region_gro groY9 [0, 1, 2, 3, 4, 5, 6, 7, 8, 9, 10, 11, 12, 13, 15, 16, 14, 17, 18, 19, 20, 21, 22, 23, 24, 25, 26, 27, 29, 28, 30, 31, 32, 33, 34, 35, 36, 37, 38] hmo (by kernel_rfl) rfl (by kernel_rfl) (fun _ _ _ _ _ h => h) ?_
      have hdr : Ext w5 w5.drew := Ext.drewN w5 1
      have HXD := Lib.hid (HX5.out.trans hdr)
      replace HS8 := Lib.hid (Strs.ext HS8.out hdr)
      clear hdr
      generalize w5.drew = w6 at *
      obtain ⟨d0, d1, d2, d3, d4, d5, d6, d7⟩ := row8_facts (HBB.out.ext HXD.out)
      obtain ⟨e0, e1, e2, e3, e4, e5, e6, e7⟩ := row8_facts (HBB2.out.ext HXD.out)
      obtain ⟨f0, f1, f2, f3, f4, f5, f6, f7⟩ := row8_facts (HB.out.ext HXD.out)
      have HS1 := Lib.hid (fun w' (hx : Ext wq w') => sameP_any _ _ Q Q2 w' (HVB.out.ext hx) (HVB2.out.ext hx) (by have := HSZ.out.few; omega) (by have := HSZ2.out.few; omega))
      have HS2 := Lib.hid (fun w' (hx : Ext wq w') => same16_any _ _ Q Q2 w' (HVB.out.ext hx) (HVB2.out.ext hx) (by have := HSZ.out.few; omega) (by have := HSZ2.out.few; omega))
      have HT1 := Lib.hid (fun u w' (hx : Ext wq w') (hu : PatAt w' u Q) => sameP_any _ u Q Q w' (HVB.out.ext hx) hu (by have := HSZ.out.few; omega) (by have := HSZ.out.few; omega))
      have HT2 := Lib.hid (fun u w' (hx : Ext wq w') (hu : PatAt w' u Q) => same16_any _ u Q Q w' (HVB.out.ext hx) hu (by have := HSZ.out.few; omega) (by have := HSZ.out.few; omega))
      rw [(sameB_iff Q Q).2 rfl] at HT1 HT2
      obtain ⟨sb, hsb⟩ : ∃ sb, sameB Q Q2 = sb := ⟨_, rfl⟩
      rw [hsb] at HS1 HS2
      clear hsb HCK
      have hcr : (r = true ∧ ck = 0) ∨ (r = false ∧ ck = 261) := by
        rcases HCR.out with ⟨h1, h2, _⟩ | ⟨h1, h2, _⟩
        · exact .inl ⟨h1, h2⟩
        · exact .inr ⟨h1, h2⟩
      clear HCR
      rcases hcr with ⟨rfl, rfl⟩ | ⟨rfl, rfl⟩
      all_goals
        repeat (first
          | (refine groL_pure rfl rfl ?_; intro K hK; go_simp; refine hK _ ?_; clear hK K)
          | (refine groL_read rfl rfl ?_; intro K S hS hK; go_simp; refine hK _ ?_; clear hK K hS S)
          | (refine groL_read rfl rfl ?_; intro K S hS hK; go_simp; refine ⟨hS _ ?_, hK _ ?_⟩; (clear hK K hS S; intro w' hx'; have hce := ext_some hx'; go_simp); clear hK K hS S)
          | (refine groL_write rfl rfl ?_; intro K hK; go_simp; refine hK _ _ ?_; clear hK K))
        have HS1 := Lib.hid (HS1.out w6 HXD.out)
        refine groL_grow rfl rfl ?_
        intro K hK
        go_simp
        (refine HS1.out.mono ?_; rintro e wa1 ⟨rfl, hxa⟩)
        go_simp
        refine hK _ _ ⟨hxa, ?_⟩
        clear hK K
        have HS2 := Lib.hid (HS2.out wa1 (HXD.out.trans hxa))
        repeat (first
          | (refine groL_pure rfl rfl ?_; intro K hK; go_simp; refine hK _ ?_; clear hK K)
          | (refine groL_read rfl rfl ?_; intro K S hS hK; go_simp; refine hK _ ?_; clear hK K hS S)
          | (refine groL_read rfl rfl ?_; intro K S hS hK; go_simp; refine ⟨hS _ ?_, hK _ ?_⟩; (clear hK K hS S; intro w' hx'; have hce := ext_some hx'; go_simp); clear hK K hS S)
          | (refine groL_write rfl rfl ?_; intro K hK; go_simp; refine hK _ _ ?_; clear hK K))
        refine groL_grow rfl rfl ?_
        intro K hK
        go_simp
        (refine HS2.out.mono ?_; rintro e wb1 ⟨rfl, hxb⟩)
        go_simp
        refine hK _ _ ⟨hxb, ?_⟩
        clear hK K
        have HXB := Lib.hid (HXD.out.trans (hxa.trans hxb))
        replace HS8 := Lib.hid (Strs.ext HS8.out (hxa.trans hxb))
        clear hxa hxb HXD HS1 HS2
        have HO1 := Lib.hid (HOW.out wb1 (HX.out.trans HXB.out))
        clear e0 e1 e2 e3 e4 e5 e6 e7
        clear d0 d1 d2 d3 d4 d5 d6 d7 f0 f1 f2 f3 f4 f5 f6 f7
        obtain ⟨d0, d1, d2, d3, d4, d5, d6, d7⟩ := row8_facts (HBB.out.ext HXB.out)
        obtain ⟨f0, f1, f2, f3, f4, f5, f6, f7⟩ := row8_facts (HB.out.ext HXB.out)
        cases sb
        all_goals
          repeat (first
            | (refine groL_pure rfl rfl ?_; intro K hK; go_simp; refine hK _ ?_; clear hK K)
            | (refine groL_read rfl rfl ?_; intro K S hS hK; go_simp; refine hK _ ?_; clear hK K hS S)
            | (refine groL_read rfl rfl ?_; intro K S hS hK; go_simp; refine ⟨hS _ ?_, hK _ ?_⟩; (clear hK K hS S; intro w' hx'; have hce := ext_some hx'; go_simp); clear hK K hS S)
            | (refine groL_write rfl rfl ?_; intro K hK; go_simp; refine hK _ _ ?_; clear hK K))
          refine groL_grow rfl rfl ?_
          intro K hK
          go_simp
          (refine HO1.out.mono ?_; rintro e wc1 ⟨u, rfl, ho, hxc⟩)
          go_simp
          refine hK _ _ ⟨hxc, ?_⟩
          clear hK K
          have HXC := Lib.hid (HXB.out.trans hxc)
          replace HS8 := Lib.hid (Strs.ext HS8.out hxc)
          have HT := Lib.hid (HT1.out u wc1 HXC.out ho.at_)
          clear ho hxc HXB
          repeat (first
            | (refine groL_pure rfl rfl ?_; intro K hK; go_simp; refine hK _ ?_; clear hK K)
            | (refine groL_read rfl rfl ?_; intro K S hS hK; go_simp; refine hK _ ?_; clear hK K hS S)
            | (refine groL_read rfl rfl ?_; intro K S hS hK; go_simp; refine ⟨hS _ ?_, hK _ ?_⟩; (clear hK K hS S; intro w' hx'; have hce := ext_some hx'; go_simp); clear hK K hS S)
            | (refine groL_write rfl rfl ?_; intro K hK; go_simp; refine hK _ _ ?_; clear hK K))
          refine groL_grow rfl rfl ?_
          intro K hK
          go_simp
          (refine HT.out.mono ?_; rintro e wd1 ⟨rfl, hxd⟩)
          go_simp
          refine hK _ _ ⟨hxd, ?_⟩
          clear hK K
          have HXE := Lib.hid (HXC.out.trans hxd)
          replace HS8 := Lib.hid (Strs.ext HS8.out hxd)
          have HV5 := Lib.hid (HVP.out wd1 HXE.out)
          clear d0 d1 d2 d3 d4 d5 d6 d7
          obtain ⟨d0, d1, d2, d3, d4, d5, d6, d7⟩ := row8_facts (HBB.out.ext HXE.out)
          clear hxd HXC
          repeat (first
            | (refine groL_pure rfl rfl ?_; intro K hK; go_simp; refine hK _ ?_; clear hK K)
            | (refine groL_read rfl rfl ?_; intro K S hS hK; go_simp; refine hK _ ?_; clear hK K hS S)
            | (refine groL_read rfl rfl ?_; intro K S hS hK; go_simp; refine ⟨hS _ ?_, hK _ ?_⟩; (clear hK K hS S; intro w' hx'; have hce := ext_some hx'; go_simp); clear hK K hS S)
            | (refine groL_write rfl rfl ?_; intro K hK; go_simp; refine hK _ _ ?_; clear hK K))
          refine groL_grow rfl rfl ?_
          intro K hK
          go_simp
          (refine HV5.out.mono ?_; rintro e we1 ⟨t, rfl, ho, hxe⟩)
          go_simp
          refine hK _ _ ⟨hxe, ?_⟩
          clear hK K
          have HEQ := Lib.hid (eqStrs_any t _ _ _ we1 (Sl.of_own ho) (Strs.ext HS8.out hxe))
          have HXF := Lib.hid (HXE.out.trans hxe)
          rw [decide_eq_true rfl] at HEQ
          clear ho hxe HXE HS8
          repeat (first
            | (refine groL_pure rfl rfl ?_; intro K hK; go_simp; refine hK _ ?_; clear hK K)
            | (refine groL_read rfl rfl ?_; intro K S hS hK; go_simp; refine hK _ ?_; clear hK K hS S)
            | (refine groL_read rfl rfl ?_; intro K S hS hK; go_simp; refine ⟨hS _ ?_, hK _ ?_⟩; (clear hK K hS S; intro w' hx'; have hce := ext_some hx'; go_simp); clear hK K hS S)
            | (refine groL_write rfl rfl ?_; intro K hK; go_simp; refine hK _ _ ?_; clear hK K))
          refine groL_grow rfl rfl ?_
          intro K hK
          go_simp
          (refine HEQ.out.mono ?_; rintro e wf1 ⟨rfl, hxf⟩)
          go_simp
          refine hK _ _ ⟨hxf, ?_⟩
          clear hK K
          have HXG := Lib.hid (HXF.out.trans hxf)
          have HO2 := Lib.hid (HOW.out wf1 (HX.out.trans HXG.out))
          clear d0 d1 d2 d3 d4 d5 d6 d7 f0 f1 f2 f3 f4 f5 f6 f7
          obtain ⟨d0, d1, d2, d3, d4, d5, d6, d7⟩ := row8_facts (HBB.out.ext HXG.out)
          obtain ⟨f0, f1, f2, f3, f4, f5, f6, f7⟩ := row8_facts (HB.out.ext HXG.out)
          clear hxf HXF
          repeat (first
            | (refine groL_pure rfl rfl ?_; intro K hK; go_simp; refine hK _ ?_; clear hK K)
            | (refine groL_read rfl rfl ?_; intro K S hS hK; go_simp; refine hK _ ?_; clear hK K hS S)
            | (refine groL_read rfl rfl ?_; intro K S hS hK; go_simp; refine ⟨hS _ ?_, hK _ ?_⟩; (clear hK K hS S; intro w' hx'; have hce := ext_some hx'; go_simp); clear hK K hS S)
            | (refine groL_write rfl rfl ?_; intro K hK; go_simp; refine hK _ _ ?_; clear hK K))
          refine groL_grow rfl rfl ?_
          intro K hK
          go_simp
          (refine HO2.out.mono ?_; rintro e wg1 ⟨u2, rfl, ho, hxg⟩)
          go_simp
          refine hK _ _ ⟨hxg, ?_⟩
          clear hK K
          have HXH := Lib.hid (HXG.out.trans hxg)
          have HT := Lib.hid (HT2.out u2 wg1 HXH.out ho.at_)
          clear ho hxg HXG
          repeat (first
            | (refine groL_pure rfl rfl ?_; intro K hK; go_simp; refine hK _ ?_; clear hK K)
            | (refine groL_read rfl rfl ?_; intro K S hS hK; go_simp; refine hK _ ?_; clear hK K hS S)
            | (refine groL_read rfl rfl ?_; intro K S hS hK; go_simp; refine ⟨hS _ ?_, hK _ ?_⟩; (clear hK K hS S; intro w' hx'; have hce := ext_some hx'; go_simp); clear hK K hS S)
            | (refine groL_write rfl rfl ?_; intro K hK; go_simp; refine hK _ _ ?_; clear hK K))
          refine groL_grow rfl rfl ?_
          intro K hK
          go_simp
          (refine HT.out.mono ?_; rintro e wh1 ⟨rfl, hxh⟩)
          go_simp
          refine hK _ _ ⟨hxh, ?_⟩
          clear hK K
          have HXI := Lib.hid (HX.out.trans (HXH.out.trans hxh))
          clear hxh HXH
          repeat (first
            | (refine groL_pure rfl rfl ?_; intro K hK; go_simp; refine hK _ ?_; clear hK K)
            | (refine groL_read rfl rfl ?_; intro K S hS hK; go_simp; refine hK _ ?_; clear hK K hS S)
            | (refine groL_read rfl rfl ?_; intro K S hS hK; go_simp; refine ⟨hS _ ?_, hK _ ?_⟩; (clear hK K hS S; intro w' hx'; have hce := ext_some hx'; go_simp); clear hK K hS S)
            | (refine groL_write rfl rfl ?_; intro K hK; go_simp; refine hK _ _ ?_; clear hK K))
          refine groL_nil ?_
          go_wp2_with fail
          go_ret
          exact ⟨rfl, HXI.out⟩
end Go.Proofs.Ytngnplghjaojhaa
