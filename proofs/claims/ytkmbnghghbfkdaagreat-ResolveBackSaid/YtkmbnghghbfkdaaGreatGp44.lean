/- The document: goals held against one another. -/
import Derived.Test.YtkmbnghghbfkdaaGreatGp43
set_option linter.unusedSimpArgs false
set_option linter.unusedVariables false
set_option maxHeartbeats 2000000
set_option maxRecDepth 100000
namespace Go.Proofs.YtkmbnghghbfkdaaGreat
open Go.Lib (hid)

section
open Go.RowKit Go.Shelf Go.Sort
attribute [local go_sem] Oper.semAt_some wide_fn wide_depth
theorem take_ne {α:Type} {T S:List α} {k:Nat} {x y:α} (e1:T.take (k + 1) = T.take k ++ [x]) (e2:S.take (k + 1) = S.take k ++ [y]) (hxy:x ≠ y):T ≠ S:=fun h=>by
 rw [h,e2] at e1
 have:=List.append_cancel_left e1
 simp only [List.cons.injEq,and_true] at this
 exact hxy this.symm
theorem take_all {α:Type} {T S:List α} (hl:T.length = S.length) (h:T.take T.length = S.take T.length):T = S:=by
 rw [List.take_length,hl,List.take_length] at h;exact h
theorem sameNR_any (v u:Value) (T S:List Int) (w:World) (hT:Ints w .i64 v T) (hS:Ints w .i64 u S) :
 Calls Tryz.prog 54 #[v,u] w fun e w'=>e = .returned (.bool (decide (T = S))) ∧ Ext w w':=by
 obtain ⟨a,c,rfl,hc1,hc2⟩:=hT.shape
 obtain ⟨a',c',rfl,hd1,hd2⟩:=hS.shape
 have HT:=hid hT
 have HS:=hid hS
 clear hT hS
 by_cases hl:T.length = S.length
 ·have hb:((T.length:Int) != (S.length:Int)) = false:=by simp [hl]
  have HL:=hid hl
  clear hl
  go_enter Tryz.func54,Tryz.ntmps54
  go_wp2_with fail
  go_loopg [14] T.length (fun g i wr=>∃ k:Nat,k ≤ T.length ∧ g = T.length - k ∧ i = .int .i64 k ∧ Hid (Ext w wr) ∧ Hid (T.take k = S.take k))
  case atStart=>exact ⟨0,Nat.zero_le _,rfl,rfl,hid (Ext.refl _),hid rfl⟩
  case round =>
   obtain ⟨k,hk,hg,rfl,HX,HE⟩:=hrel
   have Hg:=hid hg
   clear hg
   by_cases hlt:k < T.length
   ·have hlt2:k < S.length:=by have:=HL.out;omega
    obtain ⟨b,o,rfl,c0⟩:=(HT.out.ext HX.out).at_ hlt
    obtain ⟨b',o',rfl,d0⟩:=(HS.out.ext HX.out).at_ hlt2
    have e1:T.take (k + 1) = T.take k ++ [T[k]]:=List.take_succ_eq_append_getElem hlt
    have e2:S.take (k + 1) = S.take k ++ [S[k]]:=List.take_succ_eq_append_getElem hlt2
    generalize T[k] = x at *
    generalize S[k] = y at *
    have E1:=hid e1
    have E2:=hid e2
    clear e1 e2
    by_cases hxy:x = y
    ·have hn:(x != y) = false:=by simp [hxy]
     have HNX:=hid (show T.take (k + 1) = S.take (k + 1) by rw [E1.out,E2.out,HE.out,hxy])
     clear hxy
     go_wp2_with fail
     go_roundg (T.length - (k + 1))
     case measure=>have:=Hg.out;omega
     case rel=>exact ⟨k + 1,by omega,rfl,by first | rfl | go_num,HX,HNX⟩
    ·have hn:(x != y) = true:=by simp [hxy]
     have HNE:=hid (take_ne E1.out E2.out hxy)
     clear hxy
     go_wp2_with fail
     go_ret
     exact ⟨ret_bool (decide_eq_false HNE.out).symm,HX.out⟩
   ·have he:k = T.length:=by omega
    subst he
    have HQ:=hid (take_all HL.out HE.out)
    go_wp2_with fail
    go_ret
    exact ⟨ret_bool (decide_eq_true HQ.out).symm,HX.out⟩
 ·have hb:((T.length:Int) != (S.length:Int)) = true:=by simp;omega
  have HNE:Hid (T ≠ S):=hid (fun h=>hl (by rw [h]))
  clear hl
  go_enter Tryz.func54,Tryz.ntmps54
  go_wp2_with fail
  go_ret
  exact ⟨ret_bool (decide_eq_false HNE.out).symm,Ext.refl _⟩
def groS12:Nat → Gro
 | 0=>.read
 | 2=>.read
 | 5=>.read
 | _=>.pure
set_option maxHeartbeats 4000000 in
theorem sameGR_any (v u:Value) (G H:Gol) (w:World) (h:GolAt w v G) (k:GolAt w u H) (hf:G.atoms.length ≤ 1000000000) (hf2:H.atoms.length ≤ 1000000000) :
 Calls Tryz.prog 16 #[v,u] w fun e w'=>e = .returned (.bool (decide (G = H))) ∧ Ext w w':=by
 have hmo:Tryz.prog.follows .mixedOrders = true:=by kernel_rfl
 have hsg:=sameG_dec G H
 obtain ⟨vv,av,rv,hv,rfl,h0,ha,hr,hh⟩:=h
 obtain ⟨vu,au,ru,hu,rfl,k0,ka,kr,kh⟩:=k
 obtain ⟨va,vc,rfl,_,_⟩:=Sl.shape h0
 obtain ⟨aa,ac,rfl,_,_⟩:=ha.shape
 obtain ⟨ra,rc,rfl,_,_⟩:=hr.shape
 obtain ⟨ha',hc,rfl,_,_⟩:=hh.shape
 obtain ⟨va2,vc2,rfl,hvc1,hvc2⟩:=Sl.shape k0
 obtain ⟨aa2,ac2,rfl,_,_⟩:=ka.shape
 obtain ⟨ra2,rc2,rfl,_,_⟩:=kr.shape
 obtain ⟨ha2,hc2,rfl,_,_⟩:=kh.shape
 obtain ⟨RS,hRS⟩:∃ R,decide (G = H) = R:=⟨_,rfl⟩
 rw [hRS] at hsg ⊢
 have hn1:G.vars ≠ H.vars → RS = false:=fun hne=>by rw [← hRS];exact decide_eq_false (fun e=>hne (by rw [e]))
 have hn2:G.atoms ≠ H.atoms → RS = false:=fun hne=>by rw [← hRS];exact decide_eq_false (fun e=>hne (by rw [e]))
 clear hRS
 obtain ⟨vars,atoms,ret,cn,ds,lm,li,off,hint⟩:=G
 obtain ⟨vars2,atoms2,ret2,cn2,ds2,lm2,li2,off2,hint2⟩:=H
 unfold golV golC
 unfold sameG at hsg
 dsimp only at *
 have HV:=hid h0
 have HV2:=hid k0
 have HA:=hid ha
 have HA2:=hid ka
 have HR:=hid (fun w' (hx:Ext w w')=>sameNR_any _ _ ret ret2 w' (hr.ext hx) (kr.ext hx))
 have HH:=hid (fun w' (hx:Ext w w')=>sameNR_any _ _ hint hint2 w' (hh.ext hx) (kh.ext hx))
 obtain ⟨b1,q1⟩:∃ b,(cn == cn2) = b:=⟨_,rfl⟩
 obtain ⟨b2,q2⟩:∃ b,(ds == ds2) = b:=⟨_,rfl⟩
 obtain ⟨b3,q3⟩:∃ b,(lm == lm2) = b:=⟨_,rfl⟩
 obtain ⟨b4,q4⟩:∃ b,(li == li2) = b:=⟨_,rfl⟩
 obtain ⟨b5,q5⟩:∃ b,(off == off2) = b:=⟨_,rfl⟩
 obtain ⟨c2,p2⟩:∃ b,decide (ret = ret2) = b:=⟨_,rfl⟩
 obtain ⟨c3,p3⟩:∃ b,decide (hint = hint2) = b:=⟨_,rfl⟩
 rw [q1,q2,q3,q4,q5,p2,p3] at hsg
 rw [p2] at HR
 rw [p3] at HH
 obtain ⟨F,hF⟩:∃ F,(b1 && (b2 && (b3 && (b4 && b5)))) = F:=⟨_,rfl⟩
 rw [hF] at hsg
 have HFF:=hid hF
 have HSG:=hid hsg
 have HN1:=hid hn1
 have HN2:=hid hn2
 have HF1:=hid hf
 clear hF hsg hn1 hn2
 have hbx:=boxes2 w [.slice va vars.length vc,.slice aa atoms.length ac,.slice ra ret.length rc,.bool cn,.bool ds,.bool lm,.int .i64 li,.int .i64 off,.slice ha' hint.length hc] 39 [.slice va2 vars2.length vc2,.slice aa2 atoms2.length ac2,.slice ra2 ret2.length rc2,.bool cn2,.bool ds2,.bool lm2,.int .i64 li2,.int .i64 off2,.slice ha2 hint2.length hc2] 39
 have HX:=hid hbx.1
 have HB:=hid hbx.2.1
 have HB2:=hid hbx.2.2
 clear hbx h0 ha hr hh k0 ka kr kh p2 p3 hf
 go_enter Tryz.func16,Tryz.ntmps16
 go_upto_region 1 with fail
 generalize (w.alloc (.cells #[.slice va vars.length vc,.slice aa atoms.length ac,.slice ra ret.length rc,.bool cn,.bool ds,.bool lm,.int .i64 li,.int .i64 off,.slice ha' hint.length hc] 39)).alloc (.cells #[.slice va2 vars2.length vc2,.slice aa2 atoms2.length ac2,.slice ra2 ret2.length rc2,.bool cn2,.bool ds2,.bool lm2,.int .i64 li2,.int .i64 off2,.slice ha2 hint2.length hc2] 39) = w1 at *
 obtain ⟨x,hx⟩:∃ x,w.heap.size = x:=⟨_,rfl⟩
 obtain ⟨y,hy⟩:∃ y,x + 1 = y:=⟨_,rfl⟩
 rw [hx] at HB HB2
 rw [hy] at HB2
 simp only [hx,hy]
 clear hx hy
 have d0:=HB.out.cell (i:=0) rfl
 have d1:=HB.out.cell (i:=1) rfl
 have e0:=HB2.out.cell (i:=0) rfl
 have e1:=HB2.out.cell (i:=1) rfl
 by_cases hl:vars.length = vars2.length
 case neg =>
  have hb:((vars.length:Int) != (vars2.length:Int)) = true:=by simp;omega
  have HQ:=hid (HN1.out (fun e=>hl (by rw [e])))
  clear hl
  go_wp2_with fail
  go_ret
  exact ⟨ret_bool HQ.out.symm,HX.out⟩
 have hb:((vars.length:Int) != (vars2.length:Int)) = false:=by simp [hl]
 have HL:=hid hl
 clear hl
 by_cases hl:atoms.length = atoms2.length
 case neg =>
  have hb:((atoms.length:Int) != (atoms2.length:Int)) = true:=by simp;omega
  have HQ:=hid (HN2.out (fun e=>hl (by rw [e])))
  clear hl
  go_wp2_with fail
  go_ret
  exact ⟨ret_bool HQ.out.symm,HX.out⟩
 have hb2:((atoms.length:Int) != (atoms2.length:Int)) = false:=by simp [hl]
 have HL2:=hid hl
 clear hl
 go_wp2_with fail
 clear hb hb2 d0 d1 e0 e1
 go_loopg [29] vars.length (fun g i wr=>∃ k:Nat,k ≤ vars.length ∧ g = vars.length - k ∧ i = .int .i64 k ∧ Hid (Ext w1 wr) ∧ Hid (vars.take k = vars2.take k))
 case atStart=>exact ⟨0,Nat.zero_le _,rfl,rfl,hid (Ext.refl _),hid rfl⟩
 case round =>
  obtain ⟨k,hk,hg,rfl,HXR,HE⟩:=hrel
  have Hg:=hid hg
  clear hg
  by_cases hlt:k < vars.length
  ·have hlt2:k < vars2.length:=by have:=HL.out;omega
   obtain ⟨b,o,rfl,c0⟩:=(Strs.ext HV.out (HX.out.trans HXR.out)).at_ hlt
   obtain ⟨b',o',rfl,d0⟩:=(Strs.ext HV2.out (HX.out.trans HXR.out)).at_ hlt2
   have e0:=(HB2.out.ext HXR.out).cell (i:=0) rfl
   have e1:vars.take (k + 1) = vars.take k ++ [vars[k]]:=List.take_succ_eq_append_getElem hlt
   have e2:vars2.take (k + 1) = vars2.take k ++ [vars2[k]]:=List.take_succ_eq_append_getElem hlt2
   generalize vars[k] = s at *
   generalize vars2[k] = t at *
   have E1:=hid e1
   have E2:=hid e2
   clear e1 e2
   by_cases hxy:s = t
   ·have hn:(s.toList == t.toList) = true:=str_yes hxy
    have HNX:=hid (show vars.take (k + 1) = vars2.take (k + 1) by rw [E1.out,E2.out,HE.out,hxy])
    clear hxy
    go_wp2_with fail
    go_roundg (vars.length - (k + 1))
    case measure=>have:=Hg.out;omega
    case rel=>exact ⟨k + 1,by omega,rfl,by first | rfl | go_num,HXR,HNX⟩
   ·have hn:(s.toList == t.toList) = false:=str_no hxy
    have HNE:=hid (HN1.out (take_ne E1.out E2.out hxy))
    clear hxy
    go_wp2_with fail
    go_ret
    exact ⟨ret_bool HNE.out.symm,HX.out.trans HXR.out⟩
  ·have he:k = vars.length:=by omega
   subst he
   have HQ:=hid (take_all HL.out HE.out)
   have d1:=(HB.out.ext HXR.out).cell (i:=1) rfl
   go_wp2_with fail
   clear d1
   obtain ⟨wo,hwo⟩:∃ x,x = wr:=⟨_,rfl⟩
   subst hwo
   go_loopg [45] atoms.length (fun g i wr=>∃ k:Nat,k ≤ atoms.length ∧ g = atoms.length - k ∧ i = .int .i64 k ∧ Hid (Ext w1 wr) ∧ Hid (atoms.take k = atoms2.take k))
   case atStart=>exact ⟨0,Nat.zero_le _,rfl,rfl,HXR,hid rfl⟩
   case round =>
    obtain ⟨k,hk,hg,rfl,HXS,HE2⟩:=hrel
    have Hg2:=hid hg
    clear hg
    have hk1:k ≤ 1000000000:=by have:=HF1.out;omega
    by_cases hlt:k < atoms.length
    ·have hlt2:k < atoms2.length:=by have:=HL2.out;omega
     obtain ⟨b,o,rfl,c0,c1,c2',c3',c4,c5⟩:=(HA.out.ext (HX.out.trans HXS.out)).at_ hlt
     have HD:=hid (fun w' (hx:Ext wr w')=>(HA2.out.ext ((HX.out.trans HXS.out).trans hx)).at_ hlt2)
     have e1:atoms.take (k + 1) = atoms.take k ++ [atoms[k]]:=List.take_succ_eq_append_getElem hlt
     have e2:atoms2.take (k + 1) = atoms2.take k ++ [atoms2[k]]:=List.take_succ_eq_append_getElem hlt2
     generalize atoms[k] = s at *
     generalize atoms2[k] = t at *
     have E1:=hid e1
     have E2:=hid e2
     clear e1 e2
     have HAX:=hid (Ext.alloc wr (.cells #[.int .i64 s.kind,.int .i64 s.name,.int .i64 s.a.var,.int .i64 s.a.id,.int .i64 s.b.var,.int .i64 s.b.id] 75))
     have HAB:=hid (RowAt.new wr 75 [.int .i64 s.kind,.int .i64 s.name,.int .i64 s.a.var,.int .i64 s.a.id,.int .i64 s.b.var,.int .i64 s.b.id])
     go_upto_region 12 with fail
     replace HAB:Hid (RowAt (wr.alloc (.cells #[.int .i64 s.kind,.int .i64 s.name,.int .i64 s.a.var,.int .i64 s.a.id,.int .i64 s.b.var,.int .i64 s.b.id] 75)) wr.heap.size 75 [.int .i64 s.kind,.int .i64 s.name,.int .i64 s.a.var,.int .i64 s.a.id,.int .i64 s.b.var,.int .i64 s.b.id]):=HAB
     generalize wr.alloc (.cells #[.int .i64 s.kind,.int .i64 s.name,.int .i64 s.a.var,.int .i64 s.a.id,.int .i64 s.b.var,.int .i64 s.b.id] 75) = wb at *
     obtain ⟨z,hz⟩:∃ z,wr.heap.size = z:=⟨_,rfl⟩
     rw [hz] at HAB
     simp only [hz]
     clear hz c0 c1 c2' c3' c4 c5
     have hq:=fun w=>bnd_neqB s t w
     obtain ⟨B,hB⟩:∃ B,decide (s = t) = B:=⟨_,rfl⟩
     rw [hB] at hq
     have HBB:=hid hB
     unfold bndV bndCells at hq
     clear hB
     refine wp_region_grox [] groS12 [0,1,2,3,4,5,6] hmo (by kernel_rfl) rfl (by kernel_rfl) (fun _ _ _ _ _ h=>h) ?_
     have hxd:Ext wr wb.drew:=HAX.out.trans (Ext.drewN wb 1)
     have hab:=HAB.out.ext (Ext.drewN wb 1)
     change GroX _ _ _ _ _ _ _ wb.drew
     have HX3:=hid (HXS.out.trans hxd)
     have e1:=(HB2.out.ext HX3.out).cell (i:=1) rfl
     obtain ⟨b',o',rfl,d0,d1,d2,d3,d4,d5⟩:=HD.out wb.drew hxd
     replace hab:RowAt wb.drew z 75 [.int .i64 s.kind,.int .i64 s.name,.int .i64 s.a.var,.int .i64 s.a.id,.int .i64 s.b.var,.int .i64 s.b.id]:=hab
     clear hxd HAX HAB HXS HD
     generalize wb.drew = wd at *
     refine groX_load rfl rfl rfl _ _ rfl z 0 rfl [.int .i64 s.kind,.int .i64 s.name,.int .i64 s.a.var,.int .i64 s.a.id,.int .i64 s.b.var,.int .i64 s.b.id] _ hab.whole (by simp) Tryz.underlying75 rfl (by kernel_rfl) ?_
     clear hab
     repeat (first
      | (refine groX_pure rfl rfl ?_;intro K hK;go_simp;refine hK _ ?_;clear hK K)
      | (refine groX_read rfl rfl ?_;intro K S hS hK;go_simp;refine hK _ ?_;clear hK K hS S)
      | (refine groX_read rfl rfl ?_;intro K S hS hK;go_simp;refine ⟨hS _ ?_,hK _ ?_⟩;(clear hK K hS S;intro w' hx';have hce:=grows_some hx';go_simp);clear hK K hS S))
     refine groX_nil ?_
     clear d0 d1 d2 d3 d4 d5 e1 hq
     cases B with
     | true =>
      have HNX:=hid (show atoms.take (k + 1) = atoms2.take (k + 1) by rw [E1.out,E2.out,HE2.out,of_decide_eq_true HBB.out])
      go_wp2_with fail
      go_roundg (atoms.length - (k + 1))
      case measure=>have:=Hg2.out;omega
      case rel=>exact ⟨k + 1,by omega,rfl,by first | rfl | go_num,HX3,HNX⟩
     | false =>
      have HNE:=hid (HN2.out (take_ne E1.out E2.out (of_decide_eq_false HBB.out)))
      go_wp2_with fail
      go_ret
      exact ⟨ret_bool HNE.out.symm,HX.out.trans HX3.out⟩
    ·have he:k = atoms.length:=by omega
     subst he
     have HQ2:=hid (take_all HL2.out HE2.out)
     have HRS:=hid (show (F && (c2 && c3)) = RS by rw [← HSG.out,decide_eq_true HQ.out,decide_eq_true HQ2.out];simp)
     obtain ⟨d0,d1,d2,d3,d4,d5,d6,d7,d8⟩:=row9_facts (HB.out.ext HXS.out)
     obtain ⟨e0,e1,e2,e3,e4,e5,e6,e7,e8⟩:=row9_facts (HB2.out.ext HXS.out)
     obtain ⟨wp,hwp⟩:∃ x,x = wr:=⟨_,rfl⟩
     subst hwp
     go_upto_region 15 with fail
     go_cut [9] (fun s9 wx=>s9 = .bool F ∧ wx = wp)
     case first =>
      cases b1
      case false =>
       go_wp2_with fail
       go_meet
       exact ⟨by rw [← HFF.out];rfl,rfl⟩
      cases b2
      case false =>
       go_wp2_with fail
       go_meet
       exact ⟨by rw [← HFF.out];rfl,rfl⟩
      cases b3
      case false =>
       go_wp2_with fail
       go_meet
       exact ⟨by rw [← HFF.out];rfl,rfl⟩
      cases b4
      all_goals
       go_wp2_with fail
       go_meet
       exact ⟨by rw [← HFF.out];rfl,rfl⟩
     case rest =>
      obtain ⟨rfl,hwc⟩:=hcut
      rw [hwc]
      clear hwc q1 q2 q3 q4 q5 HFF
      have HR1:=hid (HR.out wp (HX.out.trans HXS.out))
      cases F with
      | false =>
       go_wp2_with fail
       go_ret
       exact ⟨ret_bool (by rw [← HRS.out];rfl),HX.out.trans HXS.out⟩
      | true =>
       cases c2 with
       | false =>
        go_wp2_with fail
        refine HR1.out.mono ?_
        rintro e w3 ⟨rfl,hx3⟩
        have HX3:=hid ((HX.out.trans HXS.out).trans hx3)
        clear hx3
        go_wp2_with fail
        go_ret
        exact ⟨ret_bool (by rw [← HRS.out];rfl),HX3.out⟩
       | true =>
        go_wp2_with fail
        refine HR1.out.mono ?_
        rintro e w3 ⟨rfl,hx3⟩
        have HX3:=hid ((HX.out.trans HXS.out).trans hx3)
        have HH1:=hid (HH.out w3 HX3.out)
        have hbb:=HB.out.ext (HXS.out.trans hx3)
        have hbb2:=HB2.out.ext (HXS.out.trans hx3)
        clear hx3 d0 d1 d2 d3 d4 d5 d6 d7 d8 e0 e1 e2 e3 e4 e5 e6 e7 e8 HR1
        obtain ⟨d0,d1,d2,d3,d4,d5,d6,d7,d8⟩:=row9_facts hbb
        obtain ⟨e0,e1,e2,e3,e4,e5,e6,e7,e8⟩:=row9_facts hbb2
        clear hbb hbb2
        go_wp2_with fail
        refine HH1.out.mono ?_
        rintro e w4 ⟨rfl,hx4⟩
        have HX4:=hid (HX3.out.trans hx4)
        clear hx4
        go_wp2_with fail
        go_ret
        exact ⟨ret_bool (by rw [← HRS.out];rfl),HX4.out⟩
end

/- The document: names of ids, terms of arguments. -/
section
open Go.RowKit Go.Shelf Go.Sort
attribute [local go_sem] Oper.semAt_some wide_fn wide_depth
def nmT (D:Dic) (k:Nat) (n:Int):ByteArray × Bool:=if 0 ≤ n ∧ n < (D k).1.length then ((D k).1.getD n.toNat nilB,true) else (nilB,false)
theorem nmT_O (D:Dic) (k:Nat) (n:Int):nameO D k n = if (nmT D k n).2 = true then some (nmT D k n).1 else none:=by
 unfold nameO nmT
 by_cases h:0 ≤ n ∧ n < (D k).1.length
 ·rw [if_pos h,if_pos h];rfl
 ·rw [if_neg h,if_neg h];rfl
theorem nameR_any (A:Heads) (D:Dic) (k:Nat) (n:Int) (w:World) (hV:DicV w (hv A) D) (hk:k < 5) :
 Calls Tryz.prog 106 #[.agg (dcells (hv A)).toArray,.int .i64 k,.int .i64 n] w fun e w'=>e = .returned (.tuple #[.string (nmT D k n).1,.bool (nmT D k n).2]) ∧ Ext w w':=by
 obtain ⟨ta,tn,tc,tb,tm,td,te,t1,_⟩:=hV k hk
 obtain ⟨T,hT⟩:∃ T,(D k).1 = T:=⟨_,rfl⟩
 have hres:nmT D k n = if 0 ≤ n ∧ n < T.length then (T.getD n.toNat nilB,true) else (nilB,false):=by unfold nmT;rw [hT]
 rw [hres]
 rw [hT] at t1
 obtain ⟨ta',tc',e0,hc1,_⟩:=Sl.shape t1
 simp only [Value.slice.injEq] at e0
 obtain ⟨rfl,rfl,rfl⟩:=e0
 have hcl:(dcells (hv A))[k * 2]? = some (.slice ta T.length tc):=by
  have h1:(hv A k).1 = .slice ta T.length tc:=by rw [te]
  rw [← h1]
  have hc:k = 0 ∨ k = 1 ∨ k = 2 ∨ k = 3 ∨ k = 4:=by omega
  rcases hc with rfl | rfl | rfl | rfl | rfl <;> rfl
 have HC:=hid hcl
 have HT:=hid (show Strs w (.slice ta T.length tc) T from t1)
 have H0:=hid (RowAt.new w 28 (dcells (hv A)))
 have HX:=hid (Ext.alloc w (.cells (dcells (hv A)).toArray 28))
 clear te t1 hT hres hcl hV
 have hc:k = 0 ∨ k = 1 ∨ k = 2 ∨ k = 3 ∨ k = 4:=by omega
 by_cases hlt:0 ≤ n ∧ n < T.length
 ·obtain ⟨q,rfl⟩:∃ q:Nat,n = q:=⟨n.toNat,by omega⟩
  have hq:q < T.length:=by omega
  rw [if_pos hlt,Int.toNat_natCast,List.getD_eq_getElem?_getD,List.getElem?_eq_getElem hq]
  dsimp only [Option.getD_some]
  obtain ⟨b,o,rfl,c0⟩:=HT.out.at_ hq
  generalize T[q] = s at *
  have n1:((q:Int) < 0) = False:=by simp
  have n2:((q:Int) ≥ (T.length:Int)) = False:=by simp;omega
  have C0:=hid c0
  clear hlt c0
  rcases hc with rfl | rfl | rfl | rfl | rfl
  all_goals
   go_enter Tryz.func106,Tryz.ntmps106
   go_upto_region 1 with fail
   replace H0:=H0.out
   replace HX:=HX.out
   have c0:=ext_cell HX C0.out
   generalize w.alloc (.cells (dcells (hv A)).toArray 28) = w1 at *
   have k0:=H0.cell HC.out
   clear H0
   go_wp2_with fail
   go_ret2
   exact ⟨rfl,HX⟩
 ·rw [if_neg hlt]
  dsimp only
  by_cases h0:n < 0
  ·have n1:(n < 0) = True:=by simp;omega
   clear hlt h0
   rcases hc with rfl | rfl | rfl | rfl | rfl
   all_goals
    go_enter Tryz.func106,Tryz.ntmps106
    go_upto_region 1 with fail
    replace H0:=H0.out
    replace HX:=HX.out
    generalize w.alloc (.cells (dcells (hv A)).toArray 28) = w1 at *
    have k0:=H0.cell HC.out
    clear H0
    go_wp2_with fail
    go_ret2
    exact ⟨rfl,HX⟩
  ·have n1:(n < 0) = False:=by simp;omega
   have n2:(n ≥ (T.length:Int)) = True:=by simp;omega
   clear hlt h0
   rcases hc with rfl | rfl | rfl | rfl | rfl
   all_goals
    go_enter Tryz.func106,Tryz.ntmps106
    go_upto_region 1 with fail
    replace H0:=H0.out
    replace HX:=HX.out
    generalize w.alloc (.cells (dcells (hv A)).toArray 28) = w1 at *
    have k0:=H0.cell HC.out
    clear H0
    go_wp2_with fail
    go_ret2
    exact ⟨rfl,HX⟩
def groM6:Nat → Gro
 | 5=>.read
 | 8=>.grow
 | _=>.pure
def termT (D:Dic) (V:List ByteArray) (a:Arg):(Bool × ByteArray) × Bool :=
 if 0 ≤ a.var then (if a.var < V.length ∧ a.id = 0 then ((false,V.getD a.var.toNat nilB),true) else ((false,nilB),false)) else ((true,(nmT D 0 a.id).1),(nmT D 0 a.id).2 && decide (a.var = -1))
theorem termT_F (D:Dic) (V:List ByteArray) (a:Arg):termF D V a = if (termT D V a).2 = true then some (termT D V a).1 else none:=by
 unfold termF termT
 rw [nmT_O]
 by_cases h:0 ≤ a.var
 ·rw [if_neg (show ¬ a.var = -1 by omega),if_pos h]
  by_cases h2:a.var < V.length ∧ a.id = 0
  ·rw [if_pos ⟨h,h2⟩,if_pos h2];rfl
  ·rw [if_neg (fun e=>h2 ⟨e.2.1,e.2.2⟩),if_neg h2];rfl
 ·rw [if_neg h]
  obtain ⟨s,ok⟩:=nmT D 0 a.id
  dsimp only
  by_cases h2:a.var = -1
  ·rw [if_pos h2]
   cases ok <;> simp [h2]
  ·rw [if_neg h2,if_neg (fun e=>h e.1)]
   cases ok <;> simp [h2]
set_option maxHeartbeats 4000000 in
theorem termR_any (A:Heads) (D:Dic) (V:List ByteArray) (vv:Value) (a:Arg) (w:World) (hV:DicV w (hv A) D) (hVV:Strs w vv V) :
 Calls Tryz.prog 105 #[.agg (dcells (hv A)).toArray,vv,.agg #[.int .i64 a.var,.int .i64 a.id]] w fun e w'=>e = .returned (.tuple #[.agg #[.bool (termT D V a).1.1,.string (termT D V a).1.2],.bool (termT D V a).2]) ∧ Ext w w':=by
 have hmo:Tryz.prog.follows .mixedOrders = true:=by kernel_rfl
 obtain ⟨va,vc,rfl,hvc,hvm⟩:=Sl.shape hVV
 obtain ⟨x1,x2⟩:=a
 have HI:=hid (fun w' (hx:Ext w w')=>nameR_any A D 0 x2 w' (hV.ext hx) (by omega))
 have HVV:=hid hVV
 unfold termT
 dsimp only
 clear hV hVV
 by_cases h:0 ≤ x1
 ·rw [if_pos h]
  have n1:(x1 ≥ 0) = True:=by simp only [ge_iff_le,eq_iff_iff,iff_true];exact h
  by_cases h2:x1 < V.length ∧ x2 = 0
  ·rw [if_pos h2]
   obtain ⟨q,rfl⟩:∃ q:Nat,x1 = q:=⟨x1.toNat,by omega⟩
   obtain ⟨h2,rfl⟩:=h2
   have hq:q < V.length:=by omega
   rw [Int.toNat_natCast,List.getD_eq_getElem?_getD,List.getElem?_eq_getElem hq]
   dsimp only [Option.getD_some]
   obtain ⟨b,o,rfl,c0⟩:=HVV.out.at_ hq
   generalize V[q] = s at *
   have C0:=hid c0
   have n2:((q:Int) ≥ (V.length:Int)) = False:=by simp;omega
   clear h h2 c0
   have hbx:=boxes3 w (dcells (hv A)) 28 ([.int .i64 q,.int .i64 0]) 73 ([.bool false,.string ⟨#[]⟩]) 86
   have HBX:=hid hbx
   clear hbx
   go_enter Tryz.func105,Tryz.ntmps105
   go_upto_region 1 with fail
   generalize ((w.alloc (.cells (dcells (hv A)).toArray 28)).alloc (.cells ([.int .i64 q,.int .i64 0]).toArray 73)).alloc (.cells ([.bool false,.string ⟨#[]⟩]).toArray 86) = w1 at *
   obtain ⟨y0,hy0⟩:∃ x,w.heap.size = x:=⟨_,rfl⟩
   obtain ⟨y1,hy1⟩:∃ x,y0 + 1 = x:=⟨_,rfl⟩
   obtain ⟨y2,hy2⟩:∃ x,y1 + 1 = x:=⟨_,rfl⟩
   rw [hy0,hy1,hy2] at HBX
   simp only [hy0,hy1,hy2]
   have HN:=hid (show w.heap.size = y0 ∧ y0 + 1 = y1 ∧ y1 + 1 = y2 from ⟨hy0,hy1,hy2⟩)
   have HX:=hid HBX.out.1
   have H0:=hid HBX.out.2.1
   have H1:=hid HBX.out.2.2.1
   have H2:=hid HBX.out.2.2.2
   clear hy0 hy1 hy2 HBX
   have c0:=ext_cell HX.out C0.out
   have k0:=H1.out.cell (i:=0) rfl
   have k1:=H1.out.cell (i:=1) rfl
   go_upto_region 4 with fail
   apply wp_region_lit
   iterate 5 (refine wpList_plain rfl fun Y y'=>?_;go_simp;refine y' _ _ ?_;clear y' Y)
   refine wpList_built rfl _ _ rfl #[.bool false,.string s] (by kernel_rfl) ?_
   clear c0 k0 k1
   refine plain_store rfl _ _ _ rfl y2 ([.bool false,.string s]) rfl rfl (H2.out) (by kernel_rfl) rfl ((by simp [Value.oneCell'])) ?_
   have HRR:=hid ((H2.out).setRow ([.bool false,.string s]))
   have HXX:=hid (show Ext w ((w1).setRow y2 ([.bool false,.string s]).toArray) from below_setRow (HX.out) ((by have:=HN.out;omega)) _)
   go_simp
   generalize (w1).setRow y2 ([.bool false,.string s]).toArray = wend at *
   (refine wpList_plain rfl fun Y y'=>?_;go_simp;refine y' _ _ ?_;clear y' Y)
   apply wpList_nil
   go_wp2_with fail
   exact bodyPost_ret (results_row1 rfl rfl HRR.out Tryz.underlying86 rfl (by kernel_rfl)) rfl (⟨rfl,HXX.out⟩)
  ·rw [if_neg h2]
   by_cases h3:x1 < V.length
   ·have h4:¬ x2 = 0:=fun e=>h2 ⟨h3,e⟩
    have n2:(x1 ≥ (V.length:Int)) = False:=by simp;omega
    have n3:(x2 != 0) = true:=by simpa using h4
    clear h h2 h3 h4
    have hbx:=boxes3 w (dcells (hv A)) 28 ([.int .i64 x1,.int .i64 x2]) 73 ([.bool false,.string ⟨#[]⟩]) 86
    have HBX:=hid hbx
    clear hbx
    go_enter Tryz.func105,Tryz.ntmps105
    go_upto_region 1 with fail
    generalize ((w.alloc (.cells (dcells (hv A)).toArray 28)).alloc (.cells ([.int .i64 x1,.int .i64 x2]).toArray 73)).alloc (.cells ([.bool false,.string ⟨#[]⟩]).toArray 86) = w1 at *
    obtain ⟨y0,hy0⟩:∃ x,w.heap.size = x:=⟨_,rfl⟩
    obtain ⟨y1,hy1⟩:∃ x,y0 + 1 = x:=⟨_,rfl⟩
    obtain ⟨y2,hy2⟩:∃ x,y1 + 1 = x:=⟨_,rfl⟩
    rw [hy0,hy1,hy2] at HBX
    simp only [hy0,hy1,hy2]
    have HN:=hid (show w.heap.size = y0 ∧ y0 + 1 = y1 ∧ y1 + 1 = y2 from ⟨hy0,hy1,hy2⟩)
    have HX:=hid HBX.out.1
    have H0:=hid HBX.out.2.1
    have H1:=hid HBX.out.2.2.1
    have H2:=hid HBX.out.2.2.2
    clear hy0 hy1 hy2 HBX
    have k0:=H1.out.cell (i:=0) rfl
    have k1:=H1.out.cell (i:=1) rfl
    go_upto_region 3 with fail
    apply wp_region_lit
    refine wpList_built rfl _ _ rfl #[.bool false,.string ⟨#[]⟩] (by kernel_rfl) ?_
    clear k0 k1
    refine plain_store rfl _ _ _ rfl y2 ([.bool false,.string ⟨#[]⟩]) rfl rfl (H2.out) (by kernel_rfl) rfl ((by simp [Value.oneCell'])) ?_
    have HRR:=hid ((H2.out).setRow ([.bool false,.string ⟨#[]⟩]))
    have HXX:=hid (show Ext w ((w1).setRow y2 ([.bool false,.string ⟨#[]⟩]).toArray) from below_setRow (HX.out) ((by have:=HN.out;omega)) _)
    go_simp
    generalize (w1).setRow y2 ([.bool false,.string ⟨#[]⟩]).toArray = wend at *
    (refine wpList_plain rfl fun Y y'=>?_;go_simp;refine y' _ _ ?_;clear y' Y)
    apply wpList_nil
    go_wp2_with fail
    exact bodyPost_ret (results_row1 rfl rfl HRR.out Tryz.underlying86 rfl (by kernel_rfl)) rfl (⟨rfl,HXX.out⟩)
   ·have n2:(x1 ≥ (V.length:Int)) = True:=by simp;omega
    clear h h2 h3
    have hbx:=boxes3 w (dcells (hv A)) 28 ([.int .i64 x1,.int .i64 x2]) 73 ([.bool false,.string ⟨#[]⟩]) 86
    have HBX:=hid hbx
    clear hbx
    go_enter Tryz.func105,Tryz.ntmps105
    go_upto_region 1 with fail
    generalize ((w.alloc (.cells (dcells (hv A)).toArray 28)).alloc (.cells ([.int .i64 x1,.int .i64 x2]).toArray 73)).alloc (.cells ([.bool false,.string ⟨#[]⟩]).toArray 86) = w1 at *
    obtain ⟨y0,hy0⟩:∃ x,w.heap.size = x:=⟨_,rfl⟩
    obtain ⟨y1,hy1⟩:∃ x,y0 + 1 = x:=⟨_,rfl⟩
    obtain ⟨y2,hy2⟩:∃ x,y1 + 1 = x:=⟨_,rfl⟩
    rw [hy0,hy1,hy2] at HBX
    simp only [hy0,hy1,hy2]
    have HN:=hid (show w.heap.size = y0 ∧ y0 + 1 = y1 ∧ y1 + 1 = y2 from ⟨hy0,hy1,hy2⟩)
    have HX:=hid HBX.out.1
    have H0:=hid HBX.out.2.1
    have H1:=hid HBX.out.2.2.1
    have H2:=hid HBX.out.2.2.2
    clear hy0 hy1 hy2 HBX
    have k0:=H1.out.cell (i:=0) rfl
    have k1:=H1.out.cell (i:=1) rfl
    go_upto_region 3 with fail
    apply wp_region_lit
    refine wpList_built rfl _ _ rfl #[.bool false,.string ⟨#[]⟩] (by kernel_rfl) ?_
    clear k0 k1
    refine plain_store rfl _ _ _ rfl y2 ([.bool false,.string ⟨#[]⟩]) rfl rfl (H2.out) (by kernel_rfl) rfl ((by simp [Value.oneCell'])) ?_
    have HRR:=hid ((H2.out).setRow ([.bool false,.string ⟨#[]⟩]))
    have HXX:=hid (show Ext w ((w1).setRow y2 ([.bool false,.string ⟨#[]⟩]).toArray) from below_setRow (HX.out) ((by have:=HN.out;omega)) _)
    go_simp
    generalize (w1).setRow y2 ([.bool false,.string ⟨#[]⟩]).toArray = wend at *
    (refine wpList_plain rfl fun Y y'=>?_;go_simp;refine y' _ _ ?_;clear y' Y)
    apply wpList_nil
    go_wp2_with fail
    exact bodyPost_ret (results_row1 rfl rfl HRR.out Tryz.underlying86 rfl (by kernel_rfl)) rfl (⟨rfl,HXX.out⟩)
 ·rw [if_neg h]
  have n1:(x1 ≥ 0) = False:=by simp only [ge_iff_le,eq_iff_iff,iff_false];exact h
  obtain ⟨N,hN⟩:∃ N,nmT D 0 x2 = N:=⟨_,rfl⟩
  rw [hN] at HI ⊢
  clear hN
  obtain ⟨s,ok⟩:=N
  dsimp only at HI ⊢
  obtain ⟨eb,heb⟩:∃ b,decide (x1 = -1) = b:=⟨_,rfl⟩
  rw [heb]
  have n2:(x1 == -1) = eb:=by rw [← heb];rfl
  clear h heb
  have hbx:=boxes3 w (dcells (hv A)) 28 ([.int .i64 x1,.int .i64 x2]) 73 ([.bool false,.string ⟨#[]⟩]) 86
  have HBX:=hid hbx
  clear hbx
  go_enter Tryz.func105,Tryz.ntmps105
  go_upto_region 1 with fail
  generalize ((w.alloc (.cells (dcells (hv A)).toArray 28)).alloc (.cells ([.int .i64 x1,.int .i64 x2]).toArray 73)).alloc (.cells ([.bool false,.string ⟨#[]⟩]).toArray 86) = w1 at *
  obtain ⟨y0,hy0⟩:∃ x,w.heap.size = x:=⟨_,rfl⟩
  obtain ⟨y1,hy1⟩:∃ x,y0 + 1 = x:=⟨_,rfl⟩
  obtain ⟨y2,hy2⟩:∃ x,y1 + 1 = x:=⟨_,rfl⟩
  rw [hy0,hy1,hy2] at HBX
  simp only [hy0,hy1,hy2]
  have HN:=hid (show w.heap.size = y0 ∧ y0 + 1 = y1 ∧ y1 + 1 = y2 from ⟨hy0,hy1,hy2⟩)
  have HX:=hid HBX.out.1
  have H0:=hid HBX.out.2.1
  have H1:=hid HBX.out.2.2.1
  have H2:=hid HBX.out.2.2.2
  clear hy0 hy1 hy2 HBX
  have k0:=H1.out.cell (i:=0) rfl
  have k1:=H1.out.cell (i:=1) rfl
  go_upto_region 5 with fail
  apply wp_region_lit
  refine plain_load rfl _ _ rfl y0 rfl _ _ (H0.out) Tryz.underlying28 rfl (by kernel_rfl) ?_
  go_simp
  iterate 2 (refine wpList_plain rfl fun Y y'=>?_;go_simp;refine y' _ _ ?_;clear y' Y)
  refine wpList_plain rfl fun K1 hK1=>?_
  go_simp
  refine (HI.out w1 HX.out).mono ?_;rintro e w2 ⟨rfl,hx2⟩
  go_simp
  refine hK1 _ _ ?_
  clear hK1 K1
  iterate 5 (refine wpList_plain rfl fun Y y'=>?_;go_simp;refine y' _ _ ?_;clear y' Y)
  apply wpList_nil
  have HX2:=hid (HX.out.trans hx2)
  have HB1:=hid (H1.out.ext hx2)
  have HB2:=hid (H2.out.ext hx2)
  clear hx2 HX H0 H1 H2 HI k0 k1
  go_upto_region 6 with fail
  refine wp_region_grox [y2] groM6 [0,1,2,3,4,5,6,7,8,9] hmo (by kernel_rfl) rfl (by kernel_rfl) (fun _ _ _ _ _ h=>h) ?_
  have hxd:Ext w2 w2.drew:=Ext.drewN w2 1
  have HX3:=hid (HX2.out.trans hxd)
  have HC1:=hid (HB1.out.ext hxd)
  have HC2:=hid (HB2.out.ext hxd)
  clear hxd HX2 HB1 HB2
  generalize w2.drew = w3 at *
  have hy1:¬ y1 ∈ [y2]:=by have:=HN.out;simp;omega
  have hy1':¬ y1 = y2:=by have:=HN.out;omega
  have k0:=HC1.out.cell (i:=0) rfl
  cases ok with
  | false =>
   repeat (first
    | (refine groX_pure rfl rfl ?_;intro K hK;go_simp;refine hK _ ?_;clear hK K)
    | (refine groX_read rfl rfl ?_;intro K S hS hK;go_simp;refine hK _ ?_;clear hK K hS S)
    | (refine groX_read rfl rfl ?_;intro K S hS hK;go_simp;refine ⟨hS _ ?_,hK _ ?_⟩;(clear hK K hS S;intro w' hx';have hce:=grows_some hx';go_simp);clear hK K hS S))
   refine groX_store rfl rfl rfl _ _ _ rfl y2 [.bool true,.string s] rfl rfl HC2.out (by simp) (by kernel_rfl) rfl (by simp [Value.oneCell']) ?_
   have HZ5:=hid (HC2.out.setRow [.bool true,.string s])
   have HX5:=hid (show Ext w (w3.setRow y2 #[.bool true,.string s]) from below_setRow HX3.out (by have:=HN.out;omega) _)
   generalize w3.setRow y2 #[.bool true,.string s] = w5 at *
   repeat (first
    | (refine groX_pure rfl rfl ?_;intro K hK;go_simp;refine hK _ ?_;clear hK K)
    | (refine groX_read rfl rfl ?_;intro K S hS hK;go_simp;refine hK _ ?_;clear hK K hS S)
    | (refine groX_read rfl rfl ?_;intro K S hS hK;go_simp;refine ⟨hS _ ?_,hK _ ?_⟩;(clear hK K hS S;intro w' hx';have hce:=grows_some hx';go_simp);clear hK K hS S))
   refine groX_nil ?_
   go_wp2_with fail
   exact bodyPost_ret (results_row1 rfl rfl HZ5.out Tryz.underlying86 rfl (by kernel_rfl)) rfl ⟨rfl,HX5.out⟩
  | true =>
   repeat (first
    | (refine groX_pure rfl rfl ?_;intro K hK;go_simp;refine hK _ ?_;clear hK K)
    | (refine groX_read rfl rfl ?_;intro K S hS hK;go_simp;refine hK _ ?_;clear hK K hS S)
    | (refine groX_read rfl rfl ?_;intro K S hS hK;go_simp;refine ⟨hS _ ?_,hK _ ?_⟩;(clear hK K hS S;intro w' hx';have hce:=grows_some hx';go_simp);clear hK K hS S))
   refine groX_store rfl rfl rfl _ _ _ rfl y2 [.bool true,.string s] rfl rfl HC2.out (by simp) (by kernel_rfl) rfl (by simp [Value.oneCell']) ?_
   have HZ5:=hid (HC2.out.setRow [.bool true,.string s])
   have HX5:=hid (show Ext w (w3.setRow y2 #[.bool true,.string s]) from below_setRow HX3.out (by have:=HN.out;omega) _)
   generalize w3.setRow y2 #[.bool true,.string s] = w5 at *
   repeat (first
    | (refine groX_pure rfl rfl ?_;intro K hK;go_simp;refine hK _ ?_;clear hK K)
    | (refine groX_read rfl rfl ?_;intro K S hS hK;go_simp;refine hK _ ?_;clear hK K hS S)
    | (refine groX_read rfl rfl ?_;intro K S hS hK;go_simp;refine ⟨hS _ ?_,hK _ ?_⟩;(clear hK K hS S;intro w' hx';have hce:=grows_some hx';go_simp);clear hK K hS S))
   refine groX_nil ?_
   go_wp2_with fail
   exact bodyPost_ret (results_row1 rfl rfl HZ5.out Tryz.underlying86 rfl (by kernel_rfl)) rfl ⟨rfl,HX5.out⟩
end

end Go.Proofs.YtkmbnghghbfkdaaGreat
