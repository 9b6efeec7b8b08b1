/- The document: goals held against one another. -/
import Derived.Test.YtkmbnghghbfkdaaGreatGp46
set_option linter.unusedSimpArgs false
set_option linter.unusedVariables false
set_option maxHeartbeats 2000000
set_option maxRecDepth 100000

namespace Go.Proofs.YtkmbnghghbfkdaaGreat
open Go.RowKit Go.Shelf Go.Sort
attribute [local go_sem] Oper.semAt_some wide_fn wide_depth
theorem take_ne {α : Type} {T S : List α} {k : Nat} {x y : α} (e1 : T.take (k + 1) = T.take k ++ [x]) (e2 : S.take (k + 1) = S.take k ++ [y]) (hxy : x ≠ y) : T ≠ S := fun h => by
 rw [h, e2] at e1
 have := List.append_cancel_left e1
 simp only [List.cons.injEq, and_true] at this
 exact hxy this.symm
theorem take_all {α : Type} {T S : List α} (hl : T.length = S.length) (h : T.take T.length = S.take T.length) : T = S := by
 rw [List.take_length, hl, List.take_length] at h; exact h
set_option maxHeartbeats 2000000 in
theorem sameNR_any (v u : Value) (T S : List Int) (w : World) (hT : Ints w .i64 v T) (hS : Ints w .i64 u S) :
 Calls Tryz.prog 54 #[v, u] w fun e w' => e = .returned (.bool (decide (T = S))) ∧ Ext w w' := by
 obtain ⟨a, c, rfl, hc1, hc2⟩ := hT.shape
 obtain ⟨a', c', rfl, hd1, hd2⟩ := hS.shape
 have HT := Lib.hid hT
 have HS := Lib.hid hS
 clear hT hS
 by_cases hl : T.length = S.length
 ·have hb : ((T.length : Int) != (S.length : Int)) = false := by simp [hl]
  have HL := Lib.hid hl
  clear hl
  go_enter Tryz.func54, Tryz.ntmps54
  go_wp2_with fail
  go_loopg [14] T.length (fun g i wr => ∃ k : Nat, k ≤ T.length ∧ g = T.length - k ∧ i = .int .i64 k ∧ Hid (Ext w wr) ∧ Hid (T.take k = S.take k))
  case atStart => exact ⟨0, Nat.zero_le _, rfl, rfl, Lib.hid (Ext.refl _), Lib.hid rfl⟩
  case round =>
   obtain ⟨k, hk, hg, rfl, HX, HE⟩ := hrel
   have Hg := Lib.hid hg
   clear hg
   by_cases hlt : k < T.length
   ·have hlt2 : k < S.length := by have := HL.out; omega
    obtain ⟨b, o, rfl, c0⟩ := (HT.out.ext HX.out).at_ hlt
    obtain ⟨b', o', rfl, d0⟩ := (HS.out.ext HX.out).at_ hlt2
    have e1 : T.take (k + 1) = T.take k ++ [T[k]] := List.take_succ_eq_append_getElem hlt
    have e2 : S.take (k + 1) = S.take k ++ [S[k]] := List.take_succ_eq_append_getElem hlt2
    generalize T[k] = x at *
    generalize S[k] = y at *
    have E1 := Lib.hid e1
    have E2 := Lib.hid e2
    clear e1 e2
    by_cases hxy : x = y
    ·have hn : (x != y) = false := by simp [hxy]
     have HNX := Lib.hid (show T.take (k + 1) = S.take (k + 1) by rw [E1.out, E2.out, HE.out, hxy])
     clear hxy
     go_wp2_with fail
     go_roundg (T.length - (k + 1))
     case measure => have := Hg.out; omega
     case rel => exact ⟨k + 1, by omega, rfl, by first | rfl | go_num, HX, HNX⟩
    ·have hn : (x != y) = true := by simp [hxy]
     have HNE := Lib.hid (take_ne E1.out E2.out hxy)
     clear hxy
     go_wp2_with fail
     go_ret
     exact ⟨ret_bool (decide_eq_false HNE.out).symm, HX.out⟩
   ·have he : k = T.length := by omega
    subst he
    have HQ := Lib.hid (take_all HL.out HE.out)
    go_wp2_with fail
    go_ret
    exact ⟨ret_bool (decide_eq_true HQ.out).symm, HX.out⟩
 ·have hb : ((T.length : Int) != (S.length : Int)) = true := by simp; omega
  have HNE : Hid (T ≠ S) := Lib.hid (fun h => hl (by rw [h]))
  clear hl
  go_enter Tryz.func54, Tryz.ntmps54
  go_wp2_with fail
  go_ret
  exact ⟨ret_bool (decide_eq_false HNE.out).symm, Ext.refl _⟩
def groS12 : Nat → Gro
 | 0 => .read
 | 2 => .read
 | 5 => .read
 | _ => .pure
set_option maxRecDepth 100000 in
set_option maxHeartbeats 4000000 in
theorem sameGR_any (v u : Value) (G H : Gol) (w : World) (h : GolAt w v G) (k : GolAt w u H) (hf : G.atoms.length ≤ 1000000000) (hf2 : H.atoms.length ≤ 1000000000) :
 Calls Tryz.prog 16 #[v, u] w fun e w' => e = .returned (.bool (decide (G = H))) ∧ Ext w w' := by
 have hmo : Tryz.prog.follows .mixedOrders = true := by kernel_rfl
 have hsg := sameG_dec G H
 obtain ⟨vv, av, rv, hv, rfl, h0, ha, hr, hh⟩ := h
 obtain ⟨vu, au, ru, hu, rfl, k0, ka, kr, kh⟩ := k
 obtain ⟨va, vc, rfl, _, _⟩ := Sl.shape h0
 obtain ⟨aa, ac, rfl, _, _⟩ := ha.shape
 obtain ⟨ra, rc, rfl, _, _⟩ := hr.shape
 obtain ⟨ha', hc, rfl, _, _⟩ := hh.shape
 obtain ⟨va2, vc2, rfl, hvc1, hvc2⟩ := Sl.shape k0
 obtain ⟨aa2, ac2, rfl, _, _⟩ := ka.shape
 obtain ⟨ra2, rc2, rfl, _, _⟩ := kr.shape
 obtain ⟨ha2, hc2, rfl, _, _⟩ := kh.shape
 obtain ⟨RS, hRS⟩ : ∃ R, decide (G = H) = R := ⟨_, rfl⟩
 rw [hRS] at hsg ⊢
 have hn1 : G.vars ≠ H.vars → RS = false := fun hne => by rw [← hRS]; exact decide_eq_false (fun e => hne (by rw [e]))
 have hn2 : G.atoms ≠ H.atoms → RS = false := fun hne => by rw [← hRS]; exact decide_eq_false (fun e => hne (by rw [e]))
 clear hRS
 obtain ⟨vars, atoms, ret, cn, ds, lm, li, off, hint⟩ := G
 obtain ⟨vars2, atoms2, ret2, cn2, ds2, lm2, li2, off2, hint2⟩ := H
 unfold golV golC
 unfold sameG at hsg
 dsimp only at *
 have HV := Lib.hid h0
 have HV2 := Lib.hid k0
 have HA := Lib.hid ha
 have HA2 := Lib.hid ka
 have HR := Lib.hid (fun w' (hx : Ext w w') => sameNR_any _ _ ret ret2 w' (hr.ext hx) (kr.ext hx))
 have HH := Lib.hid (fun w' (hx : Ext w w') => sameNR_any _ _ hint hint2 w' (hh.ext hx) (kh.ext hx))
 obtain ⟨b1, q1⟩ : ∃ b, (cn == cn2) = b := ⟨_, rfl⟩
 obtain ⟨b2, q2⟩ : ∃ b, (ds == ds2) = b := ⟨_, rfl⟩
 obtain ⟨b3, q3⟩ : ∃ b, (lm == lm2) = b := ⟨_, rfl⟩
 obtain ⟨b4, q4⟩ : ∃ b, (li == li2) = b := ⟨_, rfl⟩
 obtain ⟨b5, q5⟩ : ∃ b, (off == off2) = b := ⟨_, rfl⟩
 obtain ⟨c2, p2⟩ : ∃ b, decide (ret = ret2) = b := ⟨_, rfl⟩
 obtain ⟨c3, p3⟩ : ∃ b, decide (hint = hint2) = b := ⟨_, rfl⟩
 rw [q1, q2, q3, q4, q5, p2, p3] at hsg
 rw [p2] at HR
 rw [p3] at HH
 obtain ⟨F, hF⟩ : ∃ F, (b1 && (b2 && (b3 && (b4 && b5)))) = F := ⟨_, rfl⟩
 rw [hF] at hsg
 have HFF := Lib.hid hF
 have HSG := Lib.hid hsg
 have HN1 := Lib.hid hn1
 have HN2 := Lib.hid hn2
 have HF1 := Lib.hid hf
 clear hF hsg hn1 hn2
 have hbx := boxes2 w [.slice va vars.length vc, .slice aa atoms.length ac, .slice ra ret.length rc, .bool cn, .bool ds, .bool lm, .int .i64 li, .int .i64 off, .slice ha' hint.length hc] 39 [.slice va2 vars2.length vc2, .slice aa2 atoms2.length ac2, .slice ra2 ret2.length rc2, .bool cn2, .bool ds2, .bool lm2, .int .i64 li2, .int .i64 off2, .slice ha2 hint2.length hc2] 39
 have HX := Lib.hid hbx.1
 have HB := Lib.hid hbx.2.1
 have HB2 := Lib.hid hbx.2.2
 clear hbx h0 ha hr hh k0 ka kr kh p2 p3 hf
 go_enter Tryz.func16, Tryz.ntmps16
 go_upto_region 1 with fail
 generalize (w.alloc (.cells #[.slice va vars.length vc, .slice aa atoms.length ac, .slice ra ret.length rc, .bool cn, .bool ds, .bool lm, .int .i64 li, .int .i64 off, .slice ha' hint.length hc] 39)).alloc (.cells #[.slice va2 vars2.length vc2, .slice aa2 atoms2.length ac2, .slice ra2 ret2.length rc2, .bool cn2, .bool ds2, .bool lm2, .int .i64 li2, .int .i64 off2, .slice ha2 hint2.length hc2] 39) = w1 at *
 obtain ⟨x, hx⟩ : ∃ x, w.heap.size = x := ⟨_, rfl⟩
 obtain ⟨y, hy⟩ : ∃ y, x + 1 = y := ⟨_, rfl⟩
 rw [hx] at HB HB2
 rw [hy] at HB2
 simp only [hx, hy]
 clear hx hy
 have d0 := HB.out.cell (i := 0) rfl
 have d1 := HB.out.cell (i := 1) rfl
 have e0 := HB2.out.cell (i := 0) rfl
 have e1 := HB2.out.cell (i := 1) rfl
 by_cases hl : vars.length = vars2.length
 case neg =>
  have hb : ((vars.length : Int) != (vars2.length : Int)) = true := by simp; omega
  have HQ := Lib.hid (HN1.out (fun e => hl (by rw [e])))
  clear hl
  go_wp2_with fail
  go_ret
  exact ⟨ret_bool HQ.out.symm, HX.out⟩
 have hb : ((vars.length : Int) != (vars2.length : Int)) = false := by simp [hl]
 have HL := Lib.hid hl
 clear hl
 by_cases hl : atoms.length = atoms2.length
 case neg =>
  have hb : ((atoms.length : Int) != (atoms2.length : Int)) = true := by simp; omega
  have HQ := Lib.hid (HN2.out (fun e => hl (by rw [e])))
  clear hl
  go_wp2_with fail
  go_ret
  exact ⟨ret_bool HQ.out.symm, HX.out⟩
 have hb2 : ((atoms.length : Int) != (atoms2.length : Int)) = false := by simp [hl]
 have HL2 := Lib.hid hl
 clear hl
 go_wp2_with fail
 clear hb hb2 d0 d1 e0 e1
 go_loopg [29] vars.length (fun g i wr => ∃ k : Nat, k ≤ vars.length ∧ g = vars.length - k ∧ i = .int .i64 k ∧ Hid (Ext w1 wr) ∧ Hid (vars.take k = vars2.take k))
 case atStart => exact ⟨0, Nat.zero_le _, rfl, rfl, Lib.hid (Ext.refl _), Lib.hid rfl⟩
 case round =>
  obtain ⟨k, hk, hg, rfl, HXR, HE⟩ := hrel
  have Hg := Lib.hid hg
  clear hg
  by_cases hlt : k < vars.length
  ·have hlt2 : k < vars2.length := by have := HL.out; omega
   obtain ⟨b, o, rfl, c0⟩ := (Strs.ext HV.out (HX.out.trans HXR.out)).at_ hlt
   obtain ⟨b', o', rfl, d0⟩ := (Strs.ext HV2.out (HX.out.trans HXR.out)).at_ hlt2
   have e0 := (HB2.out.ext HXR.out).cell (i := 0) rfl
   have e1 : vars.take (k + 1) = vars.take k ++ [vars[k]] := List.take_succ_eq_append_getElem hlt
   have e2 : vars2.take (k + 1) = vars2.take k ++ [vars2[k]] := List.take_succ_eq_append_getElem hlt2
   generalize vars[k] = s at *
   generalize vars2[k] = t at *
   have E1 := Lib.hid e1
   have E2 := Lib.hid e2
   clear e1 e2
   by_cases hxy : s = t
   ·have hn : (s.toList == t.toList) = true := str_yes hxy
    have HNX := Lib.hid (show vars.take (k + 1) = vars2.take (k + 1) by rw [E1.out, E2.out, HE.out, hxy])
    clear hxy
    go_wp2_with fail
    go_roundg (vars.length - (k + 1))
    case measure => have := Hg.out; omega
    case rel => exact ⟨k + 1, by omega, rfl, by first | rfl | go_num, HXR, HNX⟩
   ·have hn : (s.toList == t.toList) = false := str_no hxy
    have HNE := Lib.hid (HN1.out (take_ne E1.out E2.out hxy))
    clear hxy
    go_wp2_with fail
    go_ret
    exact ⟨ret_bool HNE.out.symm, HX.out.trans HXR.out⟩
  ·have he : k = vars.length := by omega
   subst he
   have HQ := Lib.hid (take_all HL.out HE.out)
   have d1 := (HB.out.ext HXR.out).cell (i := 1) rfl
   go_wp2_with fail
   clear d1
   obtain ⟨wo, hwo⟩ : ∃ x, x = wr := ⟨_, rfl⟩
   subst hwo
   go_loopg [45] atoms.length (fun g i wr => ∃ k : Nat, k ≤ atoms.length ∧ g = atoms.length - k ∧ i = .int .i64 k ∧ Hid (Ext w1 wr) ∧ Hid (atoms.take k = atoms2.take k))
   case atStart => exact ⟨0, Nat.zero_le _, rfl, rfl, HXR, Lib.hid rfl⟩
   case round =>
    obtain ⟨k, hk, hg, rfl, HXS, HE2⟩ := hrel
    have Hg2 := Lib.hid hg
    clear hg
    have hk1 : k ≤ 1000000000 := by have := HF1.out; omega
    by_cases hlt : k < atoms.length
    ·have hlt2 : k < atoms2.length := by have := HL2.out; omega
     obtain ⟨b, o, rfl, c0, c1, c2', c3', c4, c5⟩ := (HA.out.ext (HX.out.trans HXS.out)).at_ hlt
     have HD := Lib.hid (fun w' (hx : Ext wr w') => (HA2.out.ext ((HX.out.trans HXS.out).trans hx)).at_ hlt2)
     have e1 : atoms.take (k + 1) = atoms.take k ++ [atoms[k]] := List.take_succ_eq_append_getElem hlt
     have e2 : atoms2.take (k + 1) = atoms2.take k ++ [atoms2[k]] := List.take_succ_eq_append_getElem hlt2
     generalize atoms[k] = s at *
     generalize atoms2[k] = t at *
     have E1 := Lib.hid e1
     have E2 := Lib.hid e2
     clear e1 e2
     have HAX := Lib.hid (Ext.alloc wr (.cells #[.int .i64 s.kind, .int .i64 s.name, .int .i64 s.a.var, .int .i64 s.a.id, .int .i64 s.b.var, .int .i64 s.b.id] 75))
     have HAB := Lib.hid (RowAt.new wr 75 [.int .i64 s.kind, .int .i64 s.name, .int .i64 s.a.var, .int .i64 s.a.id, .int .i64 s.b.var, .int .i64 s.b.id])
     go_upto_region 12 with fail
     replace HAB : Hid (RowAt (wr.alloc (.cells #[.int .i64 s.kind, .int .i64 s.name, .int .i64 s.a.var, .int .i64 s.a.id, .int .i64 s.b.var, .int .i64 s.b.id] 75)) wr.heap.size 75 [.int .i64 s.kind, .int .i64 s.name, .int .i64 s.a.var, .int .i64 s.a.id, .int .i64 s.b.var, .int .i64 s.b.id]) := HAB
     generalize wr.alloc (.cells #[.int .i64 s.kind, .int .i64 s.name, .int .i64 s.a.var, .int .i64 s.a.id, .int .i64 s.b.var, .int .i64 s.b.id] 75) = wb at *
     obtain ⟨z, hz⟩ : ∃ z, wr.heap.size = z := ⟨_, rfl⟩
     rw [hz] at HAB
     simp only [hz]
     clear hz c0 c1 c2' c3' c4 c5
     have hq := fun w => bnd_neqB s t w
     obtain ⟨B, hB⟩ : ∃ B, decide (s = t) = B := ⟨_, rfl⟩
     rw [hB] at hq
     have HBB := Lib.hid hB
     unfold bndV bndCells at hq
     clear hB
     refine wp_region_grox [] groS12 [0, 1, 2, 3, 4, 5, 6] hmo (by kernel_rfl) rfl (by kernel_rfl) (fun _ _ _ _ _ h => h) ?_
     have hxd : Ext wr wb.drew := HAX.out.trans (Ext.drewN wb 1)
     have hab := HAB.out.ext (Ext.drewN wb 1)
     change GroX _ _ _ _ _ _ _ wb.drew
     have HX3 := Lib.hid (HXS.out.trans hxd)
     have e1 := (HB2.out.ext HX3.out).cell (i := 1) rfl
     obtain ⟨b', o', rfl, d0, d1, d2, d3, d4, d5⟩ := HD.out wb.drew hxd
     replace hab : RowAt wb.drew z 75 [.int .i64 s.kind, .int .i64 s.name, .int .i64 s.a.var, .int .i64 s.a.id, .int .i64 s.b.var, .int .i64 s.b.id] := hab
     clear hxd HAX HAB HXS HD
     generalize wb.drew = wd at *
     refine groX_load rfl rfl rfl _ _ rfl z 0 rfl [.int .i64 s.kind, .int .i64 s.name, .int .i64 s.a.var, .int .i64 s.a.id, .int .i64 s.b.var, .int .i64 s.b.id] _ hab.whole (by simp) Tryz.underlying75 rfl (by kernel_rfl) ?_
     clear hab
     repeat (first
      | (refine groX_pure rfl rfl ?_; intro K hK; go_simp; refine hK _ ?_; clear hK K)
      | (refine groX_read rfl rfl ?_; intro K S hS hK; go_simp; refine hK _ ?_; clear hK K hS S)
      | (refine groX_read rfl rfl ?_; intro K S hS hK; go_simp; refine ⟨hS _ ?_, hK _ ?_⟩; (clear hK K hS S; intro w' hx'; have hce := grows_some hx'; go_simp); clear hK K hS S))
     refine groX_nil ?_
     clear d0 d1 d2 d3 d4 d5 e1 hq
     cases B with
     | true =>
      have HNX := Lib.hid (show atoms.take (k + 1) = atoms2.take (k + 1) by rw [E1.out, E2.out, HE2.out, of_decide_eq_true HBB.out])
      go_wp2_with fail
      go_roundg (atoms.length - (k + 1))
      case measure => have := Hg2.out; omega
      case rel => exact ⟨k + 1, by omega, rfl, by first | rfl | go_num, HX3, HNX⟩
     | false =>
      have HNE := Lib.hid (HN2.out (take_ne E1.out E2.out (of_decide_eq_false HBB.out)))
      go_wp2_with fail
      go_ret
      exact ⟨ret_bool HNE.out.symm, HX.out.trans HX3.out⟩
    ·have he : k = atoms.length := by omega
     subst he
     have HQ2 := Lib.hid (take_all HL2.out HE2.out)
     have HRS := Lib.hid (show (F && (c2 && c3)) = RS by rw [← HSG.out, decide_eq_true HQ.out, decide_eq_true HQ2.out]; simp)
     obtain ⟨d0, d1, d2, d3, d4, d5, d6, d7, d8⟩ := row9_facts (HB.out.ext HXS.out)
     obtain ⟨e0, e1, e2, e3, e4, e5, e6, e7, e8⟩ := row9_facts (HB2.out.ext HXS.out)
     obtain ⟨wp, hwp⟩ : ∃ x, x = wr := ⟨_, rfl⟩
     subst hwp
     go_upto_region 15 with fail
     go_cut [9] (fun s9 wx => s9 = .bool F ∧ wx = wp)
     case first =>
      cases b1
      case false =>
       go_wp2_with fail
       go_meet
       exact ⟨by rw [← HFF.out]; rfl, rfl⟩
      cases b2
      case false =>
       go_wp2_with fail
       go_meet
       exact ⟨by rw [← HFF.out]; rfl, rfl⟩
      cases b3
      case false =>
       go_wp2_with fail
       go_meet
       exact ⟨by rw [← HFF.out]; rfl, rfl⟩
      cases b4
      all_goals
       go_wp2_with fail
       go_meet
       exact ⟨by rw [← HFF.out]; rfl, rfl⟩
     case rest =>
      obtain ⟨rfl, hwc⟩ := hcut
      rw [hwc]
      clear hwc q1 q2 q3 q4 q5 HFF
      have HR1 := Lib.hid (HR.out wp (HX.out.trans HXS.out))
      cases F with
      | false =>
       go_wp2_with fail
       go_ret
       exact ⟨ret_bool (by rw [← HRS.out]; rfl), HX.out.trans HXS.out⟩
      | true =>
       cases c2 with
       | false =>
        go_wp2_with fail
        refine HR1.out.mono ?_
        rintro e w3 ⟨rfl, hx3⟩
        have HX3 := Lib.hid ((HX.out.trans HXS.out).trans hx3)
        clear hx3
        go_wp2_with fail
        go_ret
        exact ⟨ret_bool (by rw [← HRS.out]; rfl), HX3.out⟩
       | true =>
        go_wp2_with fail
        refine HR1.out.mono ?_
        rintro e w3 ⟨rfl, hx3⟩
        have HX3 := Lib.hid ((HX.out.trans HXS.out).trans hx3)
        have HH1 := Lib.hid (HH.out w3 HX3.out)
        have hbb := HB.out.ext (HXS.out.trans hx3)
        have hbb2 := HB2.out.ext (HXS.out.trans hx3)
        clear hx3 d0 d1 d2 d3 d4 d5 d6 d7 d8 e0 e1 e2 e3 e4 e5 e6 e7 e8 HR1
        obtain ⟨d0, d1, d2, d3, d4, d5, d6, d7, d8⟩ := row9_facts hbb
        obtain ⟨e0, e1, e2, e3, e4, e5, e6, e7, e8⟩ := row9_facts hbb2
        clear hbb hbb2
        go_wp2_with fail
        refine HH1.out.mono ?_
        rintro e w4 ⟨rfl, hx4⟩
        have HX4 := Lib.hid (HX3.out.trans hx4)
        clear hx4
        go_wp2_with fail
        go_ret
        exact ⟨ret_bool (by rw [← HRS.out]; rfl), HX4.out⟩
end Go.Proofs.YtkmbnghghbfkdaaGreat
