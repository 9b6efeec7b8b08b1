/- PrintPlain: the walk. -/
import Derived.Test.YthoneahamnmjlaaGreatDoorGp33
import Derived.Test.YthoneahamnmjlaaGreatDoorGp03
namespace Go.Proofs.YthoneahamnmjlaaGreatDoor
set_option maxRecDepth 100000
set_option maxHeartbeats 2000000
set_option linter.unusedSimpArgs false
open Go.RowKit Go.Shelf Go.Sort
attribute [local go_sem] Oper.semAt_some wide_fn wide_depth
set_option linter.unusedVariables false

/-- A pattern of the call's own. -/
def OwnP (B : Nat) (P : Pat) (W : World) (c : Value) : Prop := PatIn B W c P
theorem OwnP.firm (B : Nat) (P : Pat) : Firm 25 25 (OwnP B P) :=
  ⟨fun hx ⟨av, rv, hv, e, h1, h2, h3⟩ => ⟨av, rv, hv, e, own_ext h1 hx, own_ext h2 hx, own_ext h3 hx⟩, fun hr ht ⟨av, rv, hv, e, h1, h2, h3⟩ => by
    have hs : (9 : TypeId) ≠ 25 := by decide
    have hn : (40 : TypeId) ≠ 25 := by decide
    rcases ht with rfl | rfl
    · exact ⟨av, rv, hv, e, own_setC_ne h1 hr hn _ _, own_setC_ne h2 hr hs _ _, own_setC_ne h3 hr hs _ _⟩
    · exact ⟨av, rv, hv, e, own_setC_ne h1 hr hn _ _, own_setC_ne h2 hr hs _ _, own_setC_ne h3 hr hs _ _⟩⟩
theorem OwnP.shape {B : Nat} {P : Pat} {W : World} {c : Value} (h : OwnP B P W c) : ∃ a1 c1 a2 c2 a3 c3, c = .agg #[.slice a1 P.atoms.length c1, .slice a2 P.ret.length c2, .bool P.count, .bool P.distinct, .bool P.limited, .int .i64 P.limit, .int .i64 P.offset, .slice a3 P.hint.length c3] := by
  obtain ⟨av, rv, hv, rfl, h1, h2, h3⟩ := h
  obtain ⟨a1, c1, rfl⟩ := own_vw h1
  obtain ⟨a2, c2, rfl⟩ := own_vw h2
  obtain ⟨a3, c3, rfl⟩ := own_vw h3
  exact ⟨_, _, _, _, _, _, rfl⟩
theorem ArgP.own_t {w : World} {v : Value} {P : Pat} (h : ArgP w v P) (w1 W : World) (hx : Ext w w1) (hx1 : Ext w1 W) :
    Calls Tryz.prog 9 #[v] W fun e w' => ∃ u, e = .returned u ∧ OwnP w1.heap.size (ownB P) w' u ∧ Ext W w' :=
  (h.own W (hx.trans hx1)).mono fun e w' ⟨u, he, ⟨av, rv, hv, e1, h1, h2, h3⟩, hx'⟩ => ⟨_, he, ⟨av, rv, hv, e1, own_base h1 hx1.size, own_base h2 hx1.size, own_base h3 hx1.size⟩, hx'⟩
def depY : Nat → List Nat
  | 1 => [0]
  | 3 => [2]
  | 6 => [1, 4]
  | 7 => [3, 5]
  | _ => []
def zcells : List Value := [.slice none 0 0, .slice none 0 0, .bool false, .bool false, .bool false, .int .i64 0, .int .i64 0, .slice none 0 0]
theorem plainE_self {P : Pat} (h : P.okB = true) : plainE (plainP P) = (plainP P, 0) := by
  unfold plainE
  rw [if_pos (plain_okB h), plain_plain h]
theorem plain_fits {P : Pat} (h : P.okB = true) : (plainP P).Fits := ren_fits h (plain_names (okB_facts h).2.2.2.1)
theorem noPat_fits : noPat.Fits := ⟨fun a ha => by simp [noPat] at ha, by decide⟩
theorem plainE_fit (P : Pat) : (plainE P).1.Fits := by
  unfold plainE
  split
  · rename_i h; exact plain_fits h
  · exact noPat_fits
/-- Two plain texts that fit are one where the patterns are alike. -/
theorem texts_alike {P Q : Pat} (hP : P.okB = true) (hQ : Q.okB = true) (h1 : ¬ 500 < (textX (plainP P)).length) : decide (txt (textX (plainP P)) = txt (textX (plainP Q))) = alikeB P Q := by
  unfold alikeB
  rw [hP, hQ, Bool.true_and, Bool.true_and]
  by_cases h : plainP P = plainP Q
  · rw [h, (sameB_iff (plainP Q) (plainP Q)).2 rfl]; simp
  · have hs : sameB (plainP P) (plainP Q) = false := by
      rw [← Bool.not_eq_true, sameB_iff]; exact h
    rw [hs]
    exact decide_eq_false (fun e => h (text_inj (plain_okB hP) (plain_okB hQ) (by omega) (txt_inj e)))
theorem alike_comm (P Q : Pat) : alikeB P Q = alikeB Q P := by
  have h : sameB (plainP P) (plainP Q) = sameB (plainP Q) (plainP P) := by
    rw [Bool.eq_iff_iff, sameB_iff, sameB_iff]; exact eq_comm
  unfold alikeB
  rw [h]
  cases P.okB <;> cases Q.okB <;> rfl
def prG15 : Nat → Gro
  | 0 => .read
  | 1 => .read
  | 2 => .grow
  | 8 => .read
  | 9 => .read
  | 10 => .grow
  | 11 => .read
  | 12 => .read
  | 13 => .grow
  | _ => .pure
set_option maxRecDepth 100000 in
set_option maxHeartbeats 4000000 in
theorem plain_walk (v v2 : Value) (P P2 : Pat) (w : World) (h : ArgP w v P) (h2 : ArgP w v2 P2) (hW : Pows w) :
    Calls Tryz.prog 3 #[v, v2] w fun e w' => e = .returned (.bool true) ∧ Ext w w' := by
  have hmo : Tryz.prog.follows .mixedOrders = true := by kernel_rfl
  have hbf := ownB_fits P
  have hbf2 := ownB_fits P2
  obtain ⟨a1, a1', a2, a2', a3, a3', rfl⟩ := h.at_.shape
  obtain ⟨b1, b1', b2, b2', b3, b3', rfl⟩ := h2.at_.shape
  have H1A := Lib.hid h
  have H2A := Lib.hid h2
  have HW := Lib.hid hW
  have HBF := Lib.hid hbf
  have HBF2 := Lib.hid hbf2
  clear h h2 hW hbf hbf2
  -- a function with two boxes at its head: colander/colanderlaw17.PrintPlain its name, [.slice a1 P.atoms.length a1', .slice a2 P.ret.length a2', .bool P.count, .bool P.distinct, .bool P.limited, .int .i64 P.limit, .int .i64 P.offset, .slice a3 P.hint.length a3'] [.slice b1 P2.atoms.length b1', .slice b2 P2.ret.length b2', .bool P2.count, .bool P2.distinct, .bool P2.limited, .int .i64 P2.limit, .int .i64 P2.offset, .slice b3 P2.hint.length b3'] their cells (lists), api.Pattern api.Pattern their types' names
  have hbx := boxes2 w ([.slice a1 P.atoms.length a1', .slice a2 P.ret.length a2', .bool P.count, .bool P.distinct, .bool P.limited, .int .i64 P.limit, .int .i64 P.offset, .slice a3 P.hint.length a3']) 25 ([.slice b1 P2.atoms.length b1', .slice b2 P2.ret.length b2', .bool P2.count, .bool P2.distinct, .bool P2.limited, .int .i64 P2.limit, .int .i64 P2.offset, .slice b3 P2.hint.length b3']) 25
  have HBX := Lib.hid hbx
  clear hbx
  go_enter Tryz.func3, Tryz.ntmps3
  go_upto_region 1 with fail
  generalize (w.alloc (.cells ([.slice a1 P.atoms.length a1', .slice a2 P.ret.length a2', .bool P.count, .bool P.distinct, .bool P.limited, .int .i64 P.limit, .int .i64 P.offset, .slice a3 P.hint.length a3']).toArray 25)).alloc (.cells ([.slice b1 P2.atoms.length b1', .slice b2 P2.ret.length b2', .bool P2.count, .bool P2.distinct, .bool P2.limited, .int .i64 P2.limit, .int .i64 P2.offset, .slice b3 P2.hint.length b3']).toArray 25) = w1 at *
  obtain ⟨y0, hy0⟩ : ∃ x, w.heap.size = x := ⟨_, rfl⟩
  obtain ⟨y1, hy1⟩ : ∃ x, y0 + 1 = x := ⟨_, rfl⟩
  rw [hy0, hy1] at HBX
  simp only [hy0, hy1]
  have HN := Lib.hid (show w.heap.size = y0 ∧ y0 + 1 = y1 from ⟨hy0, hy1⟩)
  have HX := Lib.hid HBX.out.1
  have H0 := Lib.hid HBX.out.2.1
  have H1 := Lib.hid HBX.out.2.2
  clear hy0 hy1 HBX
  clear HN
  go_wp2_with fail
  refine (wakesT_any w1 (HW.out.ext HX.out)).mono ?_
  rintro e w2 ⟨rfl, hx2⟩
  replace HX := Lib.hid (HX.out.trans hx2)
  replace H0 := Lib.hid (H0.out.ext hx2)
  replace H1 := Lib.hid (H1.out.ext hx2)
  clear hx2
  go_upto_region 3 with fail
  refine wp_region_inv [18, 19, 20, 21, 5, 6] _ depY (PairG w2 (.agg #[.slice a1 P.atoms.length a1', .slice a2 P.ret.length a2', .bool P.count, .bool P.distinct, .bool P.limited, .int .i64 P.limit, .int .i64 P.offset, .slice a3 P.hint.length a3']) (.agg #[.slice b1 P2.atoms.length b1', .slice b2 P2.ret.length b2', .bool P2.count, .bool P2.distinct, .bool P2.limited, .int .i64 P2.limit, .int .i64 P2.offset, .slice b3 P2.hint.length b3']) (OwnP w2.heap.size (ownB P)) (OwnP w2.heap.size (ownB P2)) 25 25 zcells zcells) hmo (by kernel_rfl) (by kernel_rfl) (puts_self _ _) (PairG.start _ rfl (Ext.drewN w2 1)) ?_ ?_
  · refine ⟨?_, ?_, ?_, ?_, ?_, ?_, ?_, ?_, trivial⟩
    all_goals
      rintro S us wq hd hn ⟨l0, c0, l1, c1, x0, x1, rfl, hF⟩ K hK
      have hK' := fun l0 c0 l1 c1 x0 x1 w' h => hK [l0, c0, l1, c1, x0, x1] w' h
      clear hK
      have hxq : Ext w2 wq := hF.ext
      have HXQ := Lib.hid hxq
      clear hxq
      simp only [puts, Act.put] at hK' ⊢
      have HK := Lib.hid hK'
      have HF := Lib.hid hF
      have HN := Lib.hid hn
      have HD := Lib.hid hd
      clear hK' hF hn hd
    · have hrr := H0.out.ext HXQ.out
      have hf := row8_facts hrr
      have d0 := hf.1
      have d1 := hf.2.1
      have d2 := hf.2.2.1
      have d3 := hf.2.2.2.1
      have d4 := hf.2.2.2.2.1
      have d5 := hf.2.2.2.2.2.1
      have d6 := hf.2.2.2.2.2.2.1
      have d7 := hf.2.2.2.2.2.2.2
      clear hf
      clear hrr
      go_simp
      exact HK.out _ c0 l1 c1 x0 x1 wq HF.out.load0
    · have hc := HD.out 0 (by decide)
      have hl := HF.out.a0 hc
      have hq := H1A.out.own_t w2 wq HX.out HXQ.out
      rw [← hl] at hq
      have HQ := Lib.hid (hq)
      clear hc hl hq
      go_simp
      refine HQ.out.mono ?_
      rintro e wy ⟨u, rfl, hou, hxu⟩
      exact HK.out l0 u l1 c1 x0 x1 wy (HF.out.call0 (OwnP.firm _ _) HN.out hxu hou)
    · have hrr := H1.out.ext HXQ.out
      have hf := row8_facts hrr
      have d0 := hf.1
      have d1 := hf.2.1
      have d2 := hf.2.2.1
      have d3 := hf.2.2.2.1
      have d4 := hf.2.2.2.2.1
      have d5 := hf.2.2.2.2.2.1
      have d6 := hf.2.2.2.2.2.2.1
      have d7 := hf.2.2.2.2.2.2.2
      clear hf
      clear hrr
      go_simp
      exact HK.out l0 c0 _ c1 x0 x1 wq HF.out.load1
    · have hc := HD.out 2 (by decide)
      have hl := HF.out.a2 hc
      have hq := H2A.out.own_t w2 wq HX.out HXQ.out
      rw [← hl] at hq
      have HQ := Lib.hid (hq)
      clear hc hl hq
      go_simp
      refine HQ.out.mono ?_
      rintro e wy ⟨u, rfl, hou, hxu⟩
      exact HK.out l0 c0 l1 u x0 x1 wy (HF.out.call1 (OwnP.firm _ _) HN.out hxu hou)
    · have hk := HK.out l0 c0 l1 c1 _ x1 _ (HF.out.new0 (OwnP.firm _ _) (OwnP.firm _ _) HN.out)
      go_simp
      exact hk
    · have hk := HK.out l0 c0 l1 c1 x0 _ _ (HF.out.new1 (OwnP.firm _ _) (OwnP.firm _ _) HN.out)
      go_simp
      exact hk
    · have h1 := HD.out 1 (by decide)
      have h4 := HD.out 4 (by decide)
      have hou := OwnP.shape (HF.out.a1 h1)
      have hbx := HF.out.a4 h4
      revert hou hbx
      refine fun ⟨k1, l1', k2, l2', k3, l3', hB⟩ ⟨g, hg, _, hrow⟩ => ?_
      rw [if_neg (by rw [HN.out]; simp)] at hrow
      have hk := HK.out l0 c0 l1 c1 x0 x1 _ (HF.out.store0 (OwnP.firm _ _) (OwnP.firm _ _) h1 HN.out hg h4 (by rw [hB]; rfl))
      subst hB hg
      unfold zcells at hrow
      have hf := row8_facts hrow
      have d0 := hf.1
      have d1 := hf.2.1
      have d2 := hf.2.2.1
      have d3 := hf.2.2.2.1
      have d4 := hf.2.2.2.2.1
      have d5 := hf.2.2.2.2.2.1
      have d6 := hf.2.2.2.2.2.2.1
      have d7 := hf.2.2.2.2.2.2.2
      clear hf
      have g0 := hrow.frozen 0
      have g1 := hrow.frozen 1
      have g2 := hrow.frozen 2
      have g3 := hrow.frozen 3
      have g4 := hrow.frozen 4
      have g5 := hrow.frozen 5
      have g6 := hrow.frozen 6
      have g7 := hrow.frozen 7
      clear hrow
      have HKK := Lib.hid hk
      clear hk h1 h4
      go_simp
      exact HKK.out
    · have h1 := HD.out 3 (by decide)
      have h4 := HD.out 5 (by decide)
      have hou := OwnP.shape (HF.out.a3 h1)
      have hbx := HF.out.a5 h4
      revert hou hbx
      refine fun ⟨k1, l1', k2, l2', k3, l3', hB⟩ ⟨g, hg, _, hrow⟩ => ?_
      rw [if_neg (by rw [HN.out]; simp)] at hrow
      have hk := HK.out l0 c0 l1 c1 x0 x1 _ (HF.out.store1 (OwnP.firm _ _) (OwnP.firm _ _) h1 HN.out hg h4 (by rw [hB]; rfl))
      subst hB hg
      unfold zcells at hrow
      have hf := row8_facts hrow
      have d0 := hf.1
      have d1 := hf.2.1
      have d2 := hf.2.2.1
      have d3 := hf.2.2.2.1
      have d4 := hf.2.2.2.2.1
      have d5 := hf.2.2.2.2.2.1
      have d6 := hf.2.2.2.2.2.2.1
      have d7 := hf.2.2.2.2.2.2.2
      clear hf
      have g0 := hrow.frozen 0
      have g1 := hrow.frozen 1
      have g2 := hrow.frozen 2
      have g3 := hrow.frozen 3
      have g4 := hrow.frozen 4
      have g5 := hrow.frozen 5
      have g6 := hrow.frozen 6
      have g7 := hrow.frozen 7
      clear hrow
      have HKK := Lib.hid hk
      clear hk h1 h4
      go_simp
      exact HKK.out
  · rintro S us wq hall ⟨l0, c0, l1, c1, x0, x1, rfl, hF⟩
    have hoB := hF.a1 (hall 1 (by decide))
    have hoB2 := hF.a3 (hall 3 (by decide))
    obtain ⟨y5, rfl, hg, hrow⟩ := hF.a4 (hall 4 (by decide))
    obtain ⟨y6, rfl, hg2, hrow2⟩ := hF.a5 (hall 5 (by decide))
    obtain rfl := hF.a0 (hall 0 (by decide))
    obtain rfl := hF.a2 (hall 2 (by decide))
    rw [if_pos (hall 6 (by decide))] at hrow
    rw [if_pos (hall 7 (by decide))] at hrow2
    have HA := Lib.hid (PatIn.at_ hoB)
    have HB := Lib.hid (PatIn.at_ hoB2)
    obtain ⟨c1, c1', c2, c2', c3, c3', rfl⟩ := hoB.shape
    obtain ⟨e1, e1', e2, e2', e3, e3', rfl⟩ := hoB2.shape
    replace HX := Lib.hid (HX.out.trans hF.ext)
    have HR5 := Lib.hid (show RowAt wq y5 25 [.slice c1 (ownB P).atoms.length c1', .slice c2 (ownB P).ret.length c2', .bool (ownB P).count, .bool (ownB P).distinct, .bool (ownB P).limited, .int .i64 (ownB P).limit, .int .i64 (ownB P).offset, .slice c3 (ownB P).hint.length c3'] from hrow)
    have HR6 := Lib.hid (show RowAt wq y6 25 [.slice e1 (ownB P2).atoms.length e1', .slice e2 (ownB P2).ret.length e2', .bool (ownB P2).count, .bool (ownB P2).distinct, .bool (ownB P2).limited, .int .i64 (ownB P2).limit, .int .i64 (ownB P2).offset, .slice e3 (ownB P2).hint.length e3'] from hrow2)
    clear hF hrow hrow2 hoB hoB2 hg hg2 hall H0 H1 H1A H2A
    simp only [puts, Act.put]
    clear S
    generalize ownB P = A at *
    generalize ownB P2 = B at *
    have HPA := Lib.hid (Plain_any _ A wq HA.out HBF.out (HW.out.ext HX.out))
    obtain ⟨d0, d1, d2, d3, d4, d5, d6, d7⟩ := row8_facts HR5.out
    go_wp2_with fail
    refine HPA.out.mono ?_
    rintro e w4 ⟨u4, rfl, hp4, hx4⟩
    have HC := Lib.hid hp4.at_
    obtain ⟨f1, f1', f2, f2', f3, f3', rfl⟩ := hp4.at_.shape
    replace HX := Lib.hid (HX.out.trans hx4)
    replace HA := Lib.hid (HA.out.ext hx4)
    replace HB := Lib.hid (HB.out.ext hx4)
    replace HR5 := Lib.hid (HR5.out.ext hx4)
    replace HR6 := Lib.hid (HR6.out.ext hx4)
    clear d0 d1 d2 d3 d4 d5 d6 d7 hx4 hp4 HPA
    cases hok : A.okB with
    | false =>
      have hpe : plainE A = (noPat, 261) := by unfold plainE; rw [if_neg (by rw [hok]; decide)]
      rw [hpe] at HC ⊢
      dsimp only at HC ⊢
      have hal : alikeB A B = false := by unfold alikeB; rw [hok]; rfl
      clear hpe hok
      go_upto_region 5 with fail
      -- a pattern laid in a box: w4 the world, w5 the world behind, y7 the box's name, [.slice f1 noPat.atoms.length f1', .slice f2 noPat.ret.length f2', .bool noPat.count, .bool noPat.distinct, .bool noPat.limited, .int .i64 noPat.limit, .int .i64 noPat.offset, .slice f3 noPat.hint.length f3'] its cells. Facts: HEy7 (Ext), HRy7 (the row)
      have hxa := Ext.alloc w4 (.cells #[.slice f1 noPat.atoms.length f1', .slice f2 noPat.ret.length f2', .bool noPat.count, .bool noPat.distinct, .bool noPat.limited, .int .i64 noPat.limit, .int .i64 noPat.offset, .slice f3 noPat.hint.length f3'] 25)
      have hra := RowAt.new w4 25 [.slice f1 noPat.atoms.length f1', .slice f2 noPat.ret.length f2', .bool noPat.count, .bool noPat.distinct, .bool noPat.limited, .int .i64 noPat.limit, .int .i64 noPat.offset, .slice f3 noPat.hint.length f3']
      generalize w4.alloc (.cells #[.slice f1 noPat.atoms.length f1', .slice f2 noPat.ret.length f2', .bool noPat.count, .bool noPat.distinct, .bool noPat.limited, .int .i64 noPat.limit, .int .i64 noPat.offset, .slice f3 noPat.hint.length f3'] 25) = w5 at *
      obtain ⟨y7, hyn⟩ : ∃ y, w4.heap.size = y := ⟨_, rfl⟩
      rw [hyn] at hra
      try simp only [hyn]
      clear hyn
      have HEy7 := Lib.hid hxa
      have HRy7 := Lib.hid hra
      clear hxa hra
      replace HX := Lib.hid (HX.out.trans HEy7.out)
      replace HA := Lib.hid (HA.out.ext HEy7.out)
      replace HB := Lib.hid (HB.out.ext HEy7.out)
      replace HR5 := Lib.hid (HR5.out.ext HEy7.out)
      replace HR6 := Lib.hid (HR6.out.ext HEy7.out)
      have HAL := Lib.hid (Alike_any _ _ A B w5 HA.out HB.out HBF.out HBF2.out (HW.out.ext HX.out))
      rw [hal] at HAL
      clear hal HEy7
      have hz : noPat.atoms.length = 0 := rfl
      obtain ⟨q0, q1, q2, q3, q4, q5, q6, q7⟩ := row8_facts HRy7.out
      obtain ⟨d0, d1, d2, d3, d4, d5, d6, d7⟩ := row8_facts HR5.out
      obtain ⟨r0, r1, r2, r3, r4, r5, r6, r7⟩ := row8_facts HR6.out
      go_wp2_with fail
      refine HAL.out.mono ?_
      rintro e w6 ⟨rfl, hx6⟩
      go_wp2
      go_ret
      exact ⟨rfl, HX.out.trans hx6⟩
    | true =>
      have hpe : plainE A = (plainP A, 0) := by unfold plainE; rw [if_pos hok]
      rw [hpe] at HC ⊢
      dsimp only at HC ⊢
      clear hpe
      have hpf := plain_fits hok
      have hps := plainE_self hok
      have hpo := plain_okB hok
      have hta := fun (hq : B.okB = true) => texts_alike hok hq
      have hal : alikeB A (plainP A) = true := by
        unfold alikeB
        rw [hok, hpo, plain_plain hok, same_self]; rfl
      have hce : checkE (plainP A) = 0 := by unfold checkE; rw [if_pos hpo]
      have htf : textF (plainP A) = if 500 < (textX (plainP A)).length then (nilB, 3) else (txt (textX (plainP A)), 0) := by unfold textF; rw [if_pos hpo]
      obtain ⟨A', hA'⟩ : ∃ X, plainP A = X := ⟨_, rfl⟩
      rw [hA'] at HC hpf hps hpo hal hce htf
      simp only [hA'] at hta ⊢
      have HAF := Lib.hid hpf
      have HPS := Lib.hid hps
      have HTA := Lib.hid hta
      have HAL := Lib.hid hal
      have HCE := Lib.hid hce
      have HTF := Lib.hid htf
      clear hpf hps hpo hta hal hce htf hA' hok
      go_upto_region 5 with fail
      -- a pattern laid in a box: w4 the world, w5 the world behind, y7 the box's name, [.slice f1 A'.atoms.length f1', .slice f2 A'.ret.length f2', .bool A'.count, .bool A'.distinct, .bool A'.limited, .int .i64 A'.limit, .int .i64 A'.offset, .slice f3 A'.hint.length f3'] its cells. Facts: HEy7 (Ext), HRy7 (the row)
      have hxa := Ext.alloc w4 (.cells #[.slice f1 A'.atoms.length f1', .slice f2 A'.ret.length f2', .bool A'.count, .bool A'.distinct, .bool A'.limited, .int .i64 A'.limit, .int .i64 A'.offset, .slice f3 A'.hint.length f3'] 25)
      have hra := RowAt.new w4 25 [.slice f1 A'.atoms.length f1', .slice f2 A'.ret.length f2', .bool A'.count, .bool A'.distinct, .bool A'.limited, .int .i64 A'.limit, .int .i64 A'.offset, .slice f3 A'.hint.length f3']
      generalize w4.alloc (.cells #[.slice f1 A'.atoms.length f1', .slice f2 A'.ret.length f2', .bool A'.count, .bool A'.distinct, .bool A'.limited, .int .i64 A'.limit, .int .i64 A'.offset, .slice f3 A'.hint.length f3'] 25) = w5 at *
      obtain ⟨y7, hyn⟩ : ∃ y, w4.heap.size = y := ⟨_, rfl⟩
      rw [hyn] at hra
      try simp only [hyn]
      clear hyn
      have HEy7 := Lib.hid hxa
      have HRy7 := Lib.hid hra
      clear hxa hra
      replace HX := Lib.hid (HX.out.trans HEy7.out)
      replace HA := Lib.hid (HA.out.ext HEy7.out)
      replace HB := Lib.hid (HB.out.ext HEy7.out)
      replace HC := Lib.hid (HC.out.ext HEy7.out)
      replace HR5 := Lib.hid (HR5.out.ext HEy7.out)
      replace HR6 := Lib.hid (HR6.out.ext HEy7.out)
      clear HEy7
      have HPA := Lib.hid (Plain_any _ A' w5 HC.out HAF.out (HW.out.ext HX.out))
      rw [HPS.out] at HPA
      dsimp only at HPA
      obtain ⟨q0, q1, q2, q3, q4, q5, q6, q7⟩ := row8_facts HRy7.out
      go_wp2_with fail
      refine HPA.out.mono ?_
      rintro e w6 ⟨u6, rfl, hp6, hx6⟩
      have HD := Lib.hid hp6.at_
      obtain ⟨g1, g1', g2, g2', g3, g3', rfl⟩ := hp6.at_.shape
      replace HX := Lib.hid (HX.out.trans hx6)
      replace HA := Lib.hid (HA.out.ext hx6)
      replace HB := Lib.hid (HB.out.ext hx6)
      replace HC := Lib.hid (HC.out.ext hx6)
      replace HR5 := Lib.hid (HR5.out.ext hx6)
      replace HR6 := Lib.hid (HR6.out.ext hx6)
      replace HRy7 := Lib.hid (HRy7.out.ext hx6)
      clear q0 q1 q2 q3 q4 q5 q6 q7 hx6 hp6 HPA
      go_upto_region 8 with fail
      -- a pattern laid in a box: w6 the world, w7 the world behind, y9 the box's name, [.slice g1 A'.atoms.length g1', .slice g2 A'.ret.length g2', .bool A'.count, .bool A'.distinct, .bool A'.limited, .int .i64 A'.limit, .int .i64 A'.offset, .slice g3 A'.hint.length g3'] its cells. Facts: HEy9 (Ext), HRy9 (the row)
      have hxa := Ext.alloc w6 (.cells #[.slice g1 A'.atoms.length g1', .slice g2 A'.ret.length g2', .bool A'.count, .bool A'.distinct, .bool A'.limited, .int .i64 A'.limit, .int .i64 A'.offset, .slice g3 A'.hint.length g3'] 25)
      have hra := RowAt.new w6 25 [.slice g1 A'.atoms.length g1', .slice g2 A'.ret.length g2', .bool A'.count, .bool A'.distinct, .bool A'.limited, .int .i64 A'.limit, .int .i64 A'.offset, .slice g3 A'.hint.length g3']
      generalize w6.alloc (.cells #[.slice g1 A'.atoms.length g1', .slice g2 A'.ret.length g2', .bool A'.count, .bool A'.distinct, .bool A'.limited, .int .i64 A'.limit, .int .i64 A'.offset, .slice g3 A'.hint.length g3'] 25) = w7 at *
      obtain ⟨y9, hyn⟩ : ∃ y, w6.heap.size = y := ⟨_, rfl⟩
      rw [hyn] at hra
      try simp only [hyn]
      clear hyn
      have HEy9 := Lib.hid hxa
      have HRy9 := Lib.hid hra
      clear hxa hra
      replace HX := Lib.hid (HX.out.trans HEy9.out)
      replace HA := Lib.hid (HA.out.ext HEy9.out)
      replace HB := Lib.hid (HB.out.ext HEy9.out)
      replace HC := Lib.hid (HC.out.ext HEy9.out)
      replace HD := Lib.hid (HD.out.ext HEy9.out)
      replace HR5 := Lib.hid (HR5.out.ext HEy9.out)
      replace HR6 := Lib.hid (HR6.out.ext HEy9.out)
      replace HRy7 := Lib.hid (HRy7.out.ext HEy9.out)
      clear HEy9
      have HSM := Lib.hid (sameP_any _ _ A' A' w7 HC.out HD.out (by have := HAF.out.few; omega) (by have := HAF.out.few; omega))
      rw [same_self] at HSM
      obtain ⟨q0, q1, q2, q3, q4, q5, q6, q7⟩ := row8_facts HRy7.out
      obtain ⟨d0, d1, d2, d3, d4, d5, d6, d7⟩ := row8_facts HRy9.out
      go_wp2_with fail
      refine HSM.out.mono ?_
      rintro e w8 ⟨rfl, hx8⟩
      replace HX := Lib.hid (HX.out.trans hx8)
      replace HA := Lib.hid (HA.out.ext hx8)
      replace HB := Lib.hid (HB.out.ext hx8)
      replace HC := Lib.hid (HC.out.ext hx8)
      replace HR5 := Lib.hid (HR5.out.ext hx8)
      replace HR6 := Lib.hid (HR6.out.ext hx8)
      replace HRy7 := Lib.hid (HRy7.out.ext hx8)
      clear q0 q1 q2 q3 q4 q5 q6 q7 d0 d1 d2 d3 d4 d5 d6 d7 hx8 HSM HD HRy9
      have HAM := Lib.hid (Alike_any _ _ A A' w8 HA.out HC.out HBF.out HAF.out (HW.out.ext HX.out))
      rw [HAL.out] at HAM
      obtain ⟨q0, q1, q2, q3, q4, q5, q6, q7⟩ := row8_facts HRy7.out
      obtain ⟨d0, d1, d2, d3, d4, d5, d6, d7⟩ := row8_facts HR5.out
      go_wp2_with fail
      refine HAM.out.mono ?_
      rintro e w9 ⟨rfl, hx9⟩
      replace HX := Lib.hid (HX.out.trans hx9)
      replace HA := Lib.hid (HA.out.ext hx9)
      replace HB := Lib.hid (HB.out.ext hx9)
      replace HC := Lib.hid (HC.out.ext hx9)
      replace HR5 := Lib.hid (HR5.out.ext hx9)
      replace HR6 := Lib.hid (HR6.out.ext hx9)
      replace HRy7 := Lib.hid (HRy7.out.ext hx9)
      clear q0 q1 q2 q3 q4 q5 q6 q7 d0 d1 d2 d3 d4 d5 d6 d7 hx9 HAM
      have HCK := Lib.hid (checkP_any _ A' w9 HC.out HAF.out)
      rw [HCE.out] at HCK
      obtain ⟨q0, q1, q2, q3, q4, q5, q6, q7⟩ := row8_facts HRy7.out
      go_wp2_with fail
      refine HCK.out.mono ?_
      rintro e w10 ⟨rfl, hx10⟩
      replace HX := Lib.hid (HX.out.trans hx10)
      replace HA := Lib.hid (HA.out.ext hx10)
      replace HB := Lib.hid (HB.out.ext hx10)
      replace HC := Lib.hid (HC.out.ext hx10)
      replace HR5 := Lib.hid (HR5.out.ext hx10)
      replace HR6 := Lib.hid (HR6.out.ext hx10)
      replace HRy7 := Lib.hid (HRy7.out.ext hx10)
      clear q0 q1 q2 q3 q4 q5 q6 q7 hx10 HCK
      have HPB := Lib.hid (Plain_any _ B w10 HB.out HBF2.out (HW.out.ext HX.out))
      obtain ⟨r0, r1, r2, r3, r4, r5, r6, r7⟩ := row8_facts HR6.out
      go_wp2_with fail
      refine HPB.out.mono ?_
      rintro e w11 ⟨u11, rfl, hp11, hx11⟩
      have HE := Lib.hid hp11.at_
      obtain ⟨k1, k1', k2, k2', k3, k3', rfl⟩ := hp11.at_.shape
      have HYF := Lib.hid (plainE_fit B)
      have hyc : ((plainE B).2 = 0 ∧ B.okB = true ∧ (plainE B).1 = plainP B) ∨ (plainE B).2 = 261 := by
        unfold plainE
        by_cases hb : B.okB = true
        · rw [if_pos hb]; exact .inl ⟨rfl, hb, rfl⟩
        · rw [if_neg hb]; exact .inr rfl
      have HYC := Lib.hid hyc
      clear hyc
      generalize (plainE B).1 = Y at *
      generalize (plainE B).2 = yc at *
      replace HX := Lib.hid (HX.out.trans hx11)
      replace HA := Lib.hid (HA.out.ext hx11)
      replace HB := Lib.hid (HB.out.ext hx11)
      replace HC := Lib.hid (HC.out.ext hx11)
      replace HR5 := Lib.hid (HR5.out.ext hx11)
      replace HR6 := Lib.hid (HR6.out.ext hx11)
      replace HRy7 := Lib.hid (HRy7.out.ext hx11)
      clear r0 r1 r2 r3 r4 r5 r6 r7 hx11 hp11 HPB
      go_upto_region 11 with fail
      -- a pattern laid in a box: w11 the world, w12 the world behind, y10 the box's name, [.slice k1 Y.atoms.length k1', .slice k2 Y.ret.length k2', .bool Y.count, .bool Y.distinct, .bool Y.limited, .int .i64 Y.limit, .int .i64 Y.offset, .slice k3 Y.hint.length k3'] its cells. Facts: HEy10 (Ext), HRy10 (the row)
      have hxa := Ext.alloc w11 (.cells #[.slice k1 Y.atoms.length k1', .slice k2 Y.ret.length k2', .bool Y.count, .bool Y.distinct, .bool Y.limited, .int .i64 Y.limit, .int .i64 Y.offset, .slice k3 Y.hint.length k3'] 25)
      have hra := RowAt.new w11 25 [.slice k1 Y.atoms.length k1', .slice k2 Y.ret.length k2', .bool Y.count, .bool Y.distinct, .bool Y.limited, .int .i64 Y.limit, .int .i64 Y.offset, .slice k3 Y.hint.length k3']
      generalize w11.alloc (.cells #[.slice k1 Y.atoms.length k1', .slice k2 Y.ret.length k2', .bool Y.count, .bool Y.distinct, .bool Y.limited, .int .i64 Y.limit, .int .i64 Y.offset, .slice k3 Y.hint.length k3'] 25) = w12 at *
      obtain ⟨y10, hyn⟩ : ∃ y, w11.heap.size = y := ⟨_, rfl⟩
      rw [hyn] at hra
      try simp only [hyn]
      clear hyn
      have HEy10 := Lib.hid hxa
      have HRy10 := Lib.hid hra
      clear hxa hra
      replace HX := Lib.hid (HX.out.trans HEy10.out)
      replace HA := Lib.hid (HA.out.ext HEy10.out)
      replace HB := Lib.hid (HB.out.ext HEy10.out)
      replace HC := Lib.hid (HC.out.ext HEy10.out)
      replace HE := Lib.hid (HE.out.ext HEy10.out)
      replace HR5 := Lib.hid (HR5.out.ext HEy10.out)
      replace HR6 := Lib.hid (HR6.out.ext HEy10.out)
      replace HRy7 := Lib.hid (HRy7.out.ext HEy10.out)
      clear HEy10
      have HTX := Lib.hid (Text_any _ A' w12 HC.out HAF.out (HW.out.ext HX.out))
      obtain ⟨q0, q1, q2, q3, q4, q5, q6, q7⟩ := row8_facts HRy7.out
      go_wp2_with fail
      refine HTX.out.mono ?_
      rintro e w13 ⟨rfl, hx13⟩
      replace HX := Lib.hid (HX.out.trans hx13)
      replace HA := Lib.hid (HA.out.ext hx13)
      replace HB := Lib.hid (HB.out.ext hx13)
      replace HE := Lib.hid (HE.out.ext hx13)
      replace HR5 := Lib.hid (HR5.out.ext hx13)
      replace HR6 := Lib.hid (HR6.out.ext hx13)
      replace HRy10 := Lib.hid (HRy10.out.ext hx13)
      clear q0 q1 q2 q3 q4 q5 q6 q7 hx13 HTX
      have HTY := Lib.hid (Text_any _ Y w13 HE.out HYF.out (HW.out.ext HX.out))
      obtain ⟨q0, q1, q2, q3, q4, q5, q6, q7⟩ := row8_facts HRy10.out
      go_wp2_with fail
      refine HTY.out.mono ?_
      rintro e w14 ⟨rfl, hx14⟩
      replace HX := Lib.hid (HX.out.trans hx14)
      replace HA := Lib.hid (HA.out.ext hx14)
      replace HB := Lib.hid (HB.out.ext hx14)
      replace HR5 := Lib.hid (HR5.out.ext hx14)
      replace HR6 := Lib.hid (HR6.out.ext hx14)
      clear q0 q1 q2 q3 q4 q5 q6 q7 hx14 HTY HRy10 HE HC HRy7
      have htf := HTF.out
      have hty : (textF Y).2 = 0 ∨ (textF Y).2 = 3 ∨ (textF Y).2 = 261 := by
        unfold textF
        split
        · split
          · exact .inr (.inl rfl)
          · exact .inl rfl
        · exact .inr (.inr rfl)
      rcases HYC.out with ⟨hy0, hbok, hyp⟩ | hy1
      case inr =>
        rw [hy1]
        clear htf hty hy1 HTF HTA HYC
        obtain ⟨X1, hX1⟩ : ∃ x, textF A' = x := ⟨_, rfl⟩
        obtain ⟨X2, hX2⟩ : ∃ x, textF Y = x := ⟨_, rfl⟩
        rw [hX1, hX2]
        clear hX1 hX2
        go_wp2_with fail
        go_ret
        exact ⟨rfl, HX.out⟩
      case inl =>
        rw [hy0]
        by_cases h5 : 500 < (textX A').length
        case pos =>
          have hta : textF A' = (nilB, 3) := by rw [htf, if_pos h5]
          rw [hta]
          clear htf hty HTF HTA HYC hta
          obtain ⟨X2, hX2⟩ : ∃ x, textF Y = x := ⟨_, rfl⟩
          rw [hX2]
          clear hX2
          go_wp2_with fail
          go_ret
          exact ⟨rfl, HX.out⟩
        case neg =>
          have hta : textF A' = (txt (textX A'), 0) := by rw [htf, if_neg h5]
          rw [hta]
          have hyo := plain_okB hbok
          by_cases h6 : 500 < (textX Y).length
          case pos =>
            have hty2 : textF Y = (nilB, 3) := by unfold textF; rw [hyp, if_pos hyo, ← hyp, if_pos h6]
            rw [hty2]
            clear htf hty HTF HTA HYC hta hty2
            go_wp2_with fail
            go_ret
            exact ⟨rfl, HX.out⟩
          case neg =>
            have hty2 : textF Y = (txt (textX Y), 0) := by unfold textF; rw [hyp, if_pos hyo, ← hyp, if_neg h6]
            rw [hty2]
            have hea := HTA.out hbok h5
            rw [← hyp] at hea
            obtain ⟨S, hS⟩ : ∃ s, txt (textX A') = s := ⟨_, rfl⟩
            obtain ⟨T, hT⟩ : ∃ s, txt (textX Y) = s := ⟨_, rfl⟩
            rw [hS, hT] at hea ⊢
            have HL1 := Lib.hid (fun w' (hx : Ext w14 w') => Alike_any _ _ A B w' (HA.out.ext hx) (HB.out.ext hx) HBF.out HBF2.out (HW.out.ext (HX.out.trans hx)))
            have HL2 := Lib.hid (fun w' (hx : Ext w14 w') => Alike_any _ _ B A w' (HB.out.ext hx) (HA.out.ext hx) HBF2.out HBF.out (HW.out.ext (HX.out.trans hx)))
            rw [alike_comm B A] at HL2
            obtain ⟨al, hal⟩ : ∃ b, alikeB A B = b := ⟨_, rfl⟩
            rw [hal] at HL1 HL2 hea
            have hst : (S.toList == T.toList) = al := by rw [str_dec]; exact hea
            clear hea hal hS hT hty2 h6 hyo hta h5 hy0 hbok hyp hty htf HYC HTF HTA
            go_upto_region 15 with fail
            refine wp_region_gro prG15 [0, 1, 3, 4, 5, 2, 6, 7, 8, 9, 11, 12, 10, 13, 14, 15, 16] hmo (by kernel_rfl) rfl (by kernel_rfl) (fun _ _ _ _ _ h => h) ?_
            have hxd : Ext w14 w14.drew := Ext.drewN w14 1
            have HR5' := Lib.hid (HR5.out.ext hxd)
            have HR6' := Lib.hid (HR6.out.ext hxd)
            have HXD := Lib.hid hxd
            clear hxd
            generalize w14.drew = w15 at *
            obtain ⟨d0, d1, d2, d3, d4, d5, d6, d7⟩ := row8_facts HR5'.out
            obtain ⟨r0, r1, r2, r3, r4, r5, r6, r7⟩ := row8_facts HR6'.out
            repeat (first
              | (refine groL_pure rfl rfl ?_; intro K hK; go_simp; refine hK _ ?_; clear hK K)
              | (refine groL_read rfl rfl ?_; intro K S hS hK; go_simp; refine hK _ ?_; clear hK K hS S)
              | (refine groL_read rfl rfl ?_; intro K S hS hK; go_simp; refine ⟨hS _ ?_, hK _ ?_⟩; (clear hK K hS S; intro w' hx'; have hce := ext_some hx'; go_simp); clear hK K hS S)
              | (refine groL_write rfl rfl ?_; intro K hK; go_simp; refine hK _ _ ?_; clear hK K))
            refine groL_grow rfl rfl ?_
            intro K hK
            go_simp
            (refine (HL1.out _ HXD.out).mono ?_; rintro e w16 ⟨rfl, hx16⟩)
            go_simp
            refine hK _ _ ⟨hx16, ?_⟩
            clear hK K
            have HX16 := Lib.hid (HXD.out.trans hx16)
            have HR5q := Lib.hid (HR5'.out.ext hx16)
            have HR6q := Lib.hid (HR6'.out.ext hx16)
            clear d0 d1 d2 d3 d4 d5 d6 d7 r0 r1 r2 r3 r4 r5 r6 r7 hx16
            obtain ⟨d0, d1, d2, d3, d4, d5, d6, d7⟩ := row8_facts HR5q.out
            obtain ⟨r0, r1, r2, r3, r4, r5, r6, r7⟩ := row8_facts HR6q.out
            cases al with
            | false =>
              repeat (first
                | (refine groL_pure rfl rfl ?_; intro K hK; go_simp; refine hK _ ?_; clear hK K)
                | (refine groL_read rfl rfl ?_; intro K S hS hK; go_simp; refine hK _ ?_; clear hK K hS S)
                | (refine groL_read rfl rfl ?_; intro K S hS hK; go_simp; refine ⟨hS _ ?_, hK _ ?_⟩; (clear hK K hS S; intro w' hx'; have hce := ext_some hx'; go_simp); clear hK K hS S)
                | (refine groL_write rfl rfl ?_; intro K hK; go_simp; refine hK _ _ ?_; clear hK K))
              refine groL_grow rfl rfl ?_
              intro K hK
              go_simp
              (refine (HL1.out _ HX16.out).mono ?_; rintro e w17 ⟨rfl, hx17⟩)
              go_simp
              refine hK _ _ ⟨hx17, ?_⟩
              clear hK K
              refine groL_grow rfl rfl ?_
              intro K hK
              go_simp
              (refine (HL2.out _ (HX16.out.trans hx17)).mono ?_; rintro e w18 ⟨rfl, hx18⟩)
              go_simp
              refine hK _ _ ⟨hx18, ?_⟩
              clear hK K
              repeat (first
                | (refine groL_pure rfl rfl ?_; intro K hK; go_simp; refine hK _ ?_; clear hK K)
                | (refine groL_read rfl rfl ?_; intro K S hS hK; go_simp; refine hK _ ?_; clear hK K hS S)
                | (refine groL_read rfl rfl ?_; intro K S hS hK; go_simp; refine ⟨hS _ ?_, hK _ ?_⟩; (clear hK K hS S; intro w' hx'; have hce := ext_some hx'; go_simp); clear hK K hS S)
                | (refine groL_write rfl rfl ?_; intro K hK; go_simp; refine hK _ _ ?_; clear hK K))
              refine groL_nil ?_
              go_wp2_with fail
              go_ret
              exact ⟨rfl, HX.out.trans (HX16.out.trans (hx17.trans hx18))⟩
            | true =>
              repeat (first
                | (refine groL_pure rfl rfl ?_; intro K hK; go_simp; refine hK _ ?_; clear hK K)
                | (refine groL_read rfl rfl ?_; intro K S hS hK; go_simp; refine hK _ ?_; clear hK K hS S)
                | (refine groL_read rfl rfl ?_; intro K S hS hK; go_simp; refine ⟨hS _ ?_, hK _ ?_⟩; (clear hK K hS S; intro w' hx'; have hce := ext_some hx'; go_simp); clear hK K hS S)
                | (refine groL_write rfl rfl ?_; intro K hK; go_simp; refine hK _ _ ?_; clear hK K))
              refine groL_grow rfl rfl ?_
              intro K hK
              go_simp
              (refine (HL1.out _ HX16.out).mono ?_; rintro e w17 ⟨rfl, hx17⟩)
              go_simp
              refine hK _ _ ⟨hx17, ?_⟩
              clear hK K
              refine groL_grow rfl rfl ?_
              intro K hK
              go_simp
              (refine (HL2.out _ (HX16.out.trans hx17)).mono ?_; rintro e w18 ⟨rfl, hx18⟩)
              go_simp
              refine hK _ _ ⟨hx18, ?_⟩
              clear hK K
              repeat (first
                | (refine groL_pure rfl rfl ?_; intro K hK; go_simp; refine hK _ ?_; clear hK K)
                | (refine groL_read rfl rfl ?_; intro K S hS hK; go_simp; refine hK _ ?_; clear hK K hS S)
                | (refine groL_read rfl rfl ?_; intro K S hS hK; go_simp; refine ⟨hS _ ?_, hK _ ?_⟩; (clear hK K hS S; intro w' hx'; have hce := ext_some hx'; go_simp); clear hK K hS S)
                | (refine groL_write rfl rfl ?_; intro K hK; go_simp; refine hK _ _ ?_; clear hK K))
              refine groL_nil ?_
              go_wp2_with fail
              go_ret
              exact ⟨rfl, HX.out.trans (HX16.out.trans (hx17.trans hx18))⟩
end Go.Proofs.YthoneahamnmjlaaGreatDoor
