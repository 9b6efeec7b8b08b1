/- How an atom comes to a relation, or back: back, kind 0. -/
import Derived.Test.YtkmbnghghbfkdaaGreatGp24
set_option linter.unusedSimpArgs false
set_option linter.unusedVariables false
set_option maxHeartbeats 2000000
set_option maxRecDepth 100000
namespace Go.Proofs.YtkmbnghghbfkdaaGreat
open Go.Lib (hid)

section
open Go.RowKit Go.Shelf Go.Sort
attribute [local go_sem] Oper.semAt_some wide_fn wide_depth
set_option maxHeartbeats 4000000 in
theorem way2_any (vs:Nat → Value × Value) (m:Nat) (a0:Option Addr) (c:Nat) (D:Dic) (V:List ByteArray) (w:World) (hV:DicV w vs D) (hS:DicS D) (h:DicOK D) (hA:Strs w (.slice a0 V.length c) V) (hl:V.length ≤ 1000000) (n:Int) (a b:Arg) :
 Calls Tryz.prog 117 #[nmV vs m (.slice a0 V.length c),bndV ⟨0,n,a,b⟩] w fun e w'=>e = outE ((atmF D V ⟨0,n,a,b⟩).map atm0) atV ∧ Ext w w':=by
 have hmo:Tryz.prog.follows .mixedOrders = true:=by kernel_rfl
 obtain ⟨X,hX⟩:∃ X,outE ((atmF D V ⟨0,n,a,b⟩).map atm0) atV = X:=⟨_,rfl⟩
 rw [hX]
 obtain ⟨hY,hN0⟩:=back_e0 hX
 obtain ⟨r0,hr0⟩:∃ r,termF D V a = r:=⟨_,rfl⟩
 have hC0:=fun w' (hx:Ext w w')=>nterm_any vs m a0 c D V w' (hV.ext hx) hS h (Strs.ext hA hx) hl a
 rw [hr0] at hY hN0 hC0
 have HX0:=hid hY
 have HN0:=hid hN0
 have HC0:=hid hC0
 clear hX hY hN0 hC0 hr0 hV hS h hA hl
 unfold nmV bndV bndCells argV at *
 try dsimp only at *
 generalize Value.slice a0 V.length c = av at *
 have hbx:=boxes3 w (nmL vs m av) 98 ([.int .i64 0,.int .i64 n,.int .i64 a.var,.int .i64 a.id,.int .i64 b.var,.int .i64 b.id]) 75 ([.int .i64 0,.bool false,.string ⟨#[]⟩,.string ⟨#[]⟩,.string ⟨#[]⟩,.bool false,.string ⟨#[]⟩]) 88
 have HBX:=hid hbx
 clear hbx
 go_enter Tryz.func117,Tryz.ntmps117
 go_upto_region 1 with fail
 generalize ((w.alloc (.cells (nmL vs m av).toArray 98)).alloc (.cells ([.int .i64 0,.int .i64 n,.int .i64 a.var,.int .i64 a.id,.int .i64 b.var,.int .i64 b.id]).toArray 75)).alloc (.cells ([.int .i64 0,.bool false,.string ⟨#[]⟩,.string ⟨#[]⟩,.string ⟨#[]⟩,.bool false,.string ⟨#[]⟩]).toArray 88) = w1 at *
 obtain ⟨y0,hy0⟩:∃ x,w.heap.size = x:=⟨_,rfl⟩
 obtain ⟨y1,hy1⟩:∃ x,y0 + 1 = x:=⟨_,rfl⟩
 obtain ⟨y2,hy2⟩:∃ x,y1 + 1 = x:=⟨_,rfl⟩
 rw [hy0,hy1,hy2] at HBX
 simp only [hy0,hy1,hy2]
 have HN:=hid (show w.heap.size = y0 ∧ y0 + 1 = y1 ∧ y1 + 1 = y2 from ⟨hy0,hy1,hy2⟩)
 have HX:=hid HBX.out.1
 have H0:=hid HBX.out.2.1
 have H1:=hid HBX.out.2.2.1
 have H2:=hid HBX.out.2.2.2
 clear hy0 hy1 hy2 HBX
 have HY:=hid (show y0 ≠ y2 ∧ y1 ≠ y2 ∧ w.heap.size ≤ y2 by have:=HN.out;omega)
 clear HN
 have k2:=H1.out.cell (i:=2) rfl
 have k3:=H1.out.cell (i:=3) rfl
 apply wp_region_lit
 refine plain_load rfl _ _ rfl y0 rfl _ _ (H0.out) Tryz.underlying98 rfl (by kernel_rfl) ?_
 go_simp
 iterate 2 (refine wpList_plain rfl fun Y y'=>?_;go_simp;refine y' _ _ ?_;clear y' Y)
 refine wpList_plain rfl fun K1 hK1=>?_
 go_simp
 refine (HC0.out w1 HX.out).mono ?_
 rintro e w2 ⟨rfl,hxw2⟩
 rcases hrx:r0 with _ | x
 ·unfold outE unknE
  go_wp2_with fail
  exact ⟨rfl,HN0.out hrx,HX.out.trans hxw2⟩
 unfold outE
 dsimp only
 go_simp
 refine hK1 _ _ ?_
 clear hK1 K1
 have HXw2:=hid (HX.out.trans hxw2)
 have HB2:=hid (H2.out.ext hxw2)
 clear hxw2 HX H0 H1 H2 k2 k3
 obtain ⟨x1,x2⟩:=x
 unfold termV
 dsimp only
 (refine wpList_plain rfl fun Y y'=>?_;go_simp;refine y' _ _ ?_;clear y' Y)
 refine plain_store rfl _ _ _ rfl y2 ([.int .i64 0,.bool x1,.string x2,.string ⟨#[]⟩,.string ⟨#[]⟩,.bool false,.string ⟨#[]⟩]) rfl rfl (HB2.out) (by kernel_rfl) rfl ((by simp [Value.oneCell'])) ?_
 have HRR:=hid ((HB2.out).setRow ([.int .i64 0,.bool x1,.string x2,.string ⟨#[]⟩,.string ⟨#[]⟩,.bool false,.string ⟨#[]⟩]))
 have HXX:=hid (show Ext w ((w2).setRow y2 ([.int .i64 0,.bool x1,.string x2,.string ⟨#[]⟩,.string ⟨#[]⟩,.bool false,.string ⟨#[]⟩]).toArray) from below_setRow (HXw2.out) (HY.out.2.2) _)
 go_simp
 apply wpList_nil
 go_wp2_with fail
 exact bodyPost_ret (results_row0 rfl rfl HRR.out Tryz.underlying88 rfl (by kernel_rfl)) rfl (⟨HX0.out (x1,x2) hrx,HXX.out⟩)
end

/- How an atom comes to a relation, or back: there, kind 2. -/
section
open Go.RowKit Go.Shelf Go.Sort
attribute [local go_sem] Oper.semAt_some wide_fn wide_depth
set_option maxHeartbeats 4000000 in
theorem way3_any (vs:Nat → Value × Value) (m:Nat) (av:Value) (D:Dic) (V:List ByteArray) (w:World) (hV:DicV w vs D) (hS:DicS D) (h:DicOK D) (hm:VarsAt w m V) (hd:Distinct V) (fk:Bool) (fn name value:ByteArray) (tk:Bool) (tn:ByteArray)
 (hf:(⟨2,fk,fn,name,value,tk,tn⟩:Atm).Fits) (hin:(⟨2,fk,fn,name,value,tk,tn⟩:Atm).In V) :
 Calls Tryz.prog 119 #[nmV vs m av,atV ⟨2,fk,fn,name,value,tk,tn⟩] w fun e w'=>e = outE ((bndF D V ⟨2,fk,fn,name,value,tk,tn⟩).map bnd0) bndV ∧ Ext w w':=by
 have hmo:Tryz.prog.follows .mixedOrders = true:=by kernel_rfl
 obtain ⟨X,hX⟩:∃ X,outE ((bndF D V ⟨2,fk,fn,name,value,tk,tn⟩).map bnd0) bndV = X:=⟨_,rfl⟩
 rw [hX]
 obtain ⟨hY,hN0,hN1⟩:=way_e2 hX
 obtain ⟨r0,hr0⟩:∃ r,idO D 1 name = r:=⟨_,rfl⟩
 have hC0:=fun w' (hx:Ext w w')=>nid_any vs m av D w' (hV.ext hx) hS h 1 name (by have:=hf.name;dsimp only at this;omega)
 obtain ⟨r1,hr1⟩:∃ r,argF D V fk fn = r:=⟨_,rfl⟩
 have hC1:=fun w' (hx:Ext w w')=>narg_any vs m av D V w' (hV.ext hx) hS h (hm.ext hx) hd fk fn (by have:=hf.fn;dsimp only at this;omega) hin.1
 rw [hr0] at hY hN0 hC0
 rw [hr1] at hY hN1 hC1
 have HX0:=hid hY
 have HN0:=hid hN0
 have HC0:=hid hC0
 have HN1:=hid hN1
 have HC1:=hid hC1
 clear hX hY hN0 hC0 hr0 hN1 hC1 hr1 hV hS h hm hd hf hin
 unfold nmV atV at *
 dsimp only at *
 have hbx:=boxes3 w (nmL vs m av) 98 ([.int .i64 2,.bool fk,.string fn,.string name,.string value,.bool tk,.string tn]) 88 ([.int .i64 0,.int .i64 0,.int .i64 0,.int .i64 0,.int .i64 0,.int .i64 0]) 75
 have HBX:=hid hbx
 clear hbx
 go_enter Tryz.func119,Tryz.ntmps119
 go_upto_region 1 with fail
 generalize ((w.alloc (.cells (nmL vs m av).toArray 98)).alloc (.cells ([.int .i64 2,.bool fk,.string fn,.string name,.string value,.bool tk,.string tn]).toArray 88)).alloc (.cells ([.int .i64 0,.int .i64 0,.int .i64 0,.int .i64 0,.int .i64 0,.int .i64 0]).toArray 75) = w1 at *
 obtain ⟨y0,hy0⟩:∃ x,w.heap.size = x:=⟨_,rfl⟩
 obtain ⟨y1,hy1⟩:∃ x,y0 + 1 = x:=⟨_,rfl⟩
 obtain ⟨y2,hy2⟩:∃ x,y1 + 1 = x:=⟨_,rfl⟩
 rw [hy0,hy1,hy2] at HBX
 simp only [hy0,hy1,hy2]
 have HN:=hid (show w.heap.size = y0 ∧ y0 + 1 = y1 ∧ y1 + 1 = y2 from ⟨hy0,hy1,hy2⟩)
 have HX:=hid HBX.out.1
 have H0:=hid HBX.out.2.1
 have H1:=hid HBX.out.2.2.1
 have H2:=hid HBX.out.2.2.2
 clear hy0 hy1 hy2 HBX
 have HY:=hid (show y0 ≠ y2 ∧ y1 ≠ y2 ∧ w.heap.size ≤ y2 by have:=HN.out;omega)
 clear HN
 have k1:=H1.out.cell (i:=1) rfl
 have k2:=H1.out.cell (i:=2) rfl
 apply wp_region_lit
 refine plain_load rfl _ _ rfl y0 rfl _ _ (H0.out) Tryz.underlying98 rfl (by kernel_rfl) ?_
 go_simp
 iterate 2 (refine wpList_plain rfl fun Y y'=>?_;go_simp;refine y' _ _ ?_;clear y' Y)
 refine wpList_plain rfl fun K1 hK1=>?_
 go_simp
 refine (HC1.out w1 HX.out).mono ?_
 rintro e w2 ⟨rfl,hxw2⟩
 rcases hrx:r1 with _ | x
 ·unfold outE unknE
  go_wp2_with fail
  exact ⟨rfl,HN1.out hrx,HX.out.trans hxw2⟩
 unfold outE
 dsimp only
 go_simp
 refine hK1 _ _ ?_
 clear hK1 K1
 have HXw2:=hid (HX.out.trans hxw2)
 have HB2:=hid (H2.out.ext hxw2)
 have G0:=hid (H0.out.ext hxw2)
 have G1:=hid (H1.out.ext hxw2)
 clear hxw2 HX H0 H1 H2 k1 k2
 obtain ⟨x1,x2⟩:=x
 unfold argV
 dsimp only
 have hz0:y0 < w2.heap.size:=(show RowAt w2 y0 98 (nmL vs m av) from G0.out).lt
 have hz1:y1 < w2.heap.size:=G1.out.lt
 have HZ:=hid hz0
 have HZ1:=hid hz1
 clear hz0 hz1
 (refine wpList_plain rfl fun Y y'=>?_;go_simp;refine y' _ _ ?_;clear y' Y)
 have hx3:=Ext.alloc w2 (.cells #[.int .i64 0,.int .i64 0] 73)
 have ha3:RowAt (w2.alloc (.cells #[.int .i64 0,.int .i64 0] 73)) w2.heap.size 73 [.int .i64 0,.int .i64 0]:=RowAt.new _ _ _
 have hlt2:y2 < w2.heap.size:=HB2.out.lt
 have hw2:=HXw2.out.size
 have HX3:=hid (HXw2.out.trans hx3)
 have HB3:=hid (HB2.out.ext hx3)
 have G03:=hid ((show RowAt w2 y0 98 (nmL vs m av) from G0.out).ext hx3)
 have G13:=hid (G1.out.ext hx3)
 have HA3:=hid ha3
 clear hx3 ha3 HXw2 HB2
 generalize w2.alloc (.cells #[.int .i64 0,.int .i64 0] 73) = w3 at *
 obtain ⟨x,hx⟩:∃ x,w2.heap.size = x:=⟨_,rfl⟩
 rw [hx] at HA3 hlt2 hw2 HZ HZ1
 simp only [hx]
 clear hx
 refine plain_store rfl _ _ _ rfl x [.int .i64 x1,.int .i64 x2] rfl rfl HA3.out (by kernel_rfl) rfl (by simp [Value.oneCell']) ?_
 have HB4:=hid (show RowAt (w3.setRow x #[.int .i64 x1,.int .i64 x2]) y2 75 [.int .i64 0,.int .i64 0,.int .i64 0,.int .i64 0,.int .i64 0,.int .i64 0] from (setRow_other w3 x y2 #[.int .i64 x1,.int .i64 x2] (by omega)).trans HB3.out)
 have G04:=hid ((setRow_other w3 x y0 #[.int .i64 x1,.int .i64 x2] (by have:=HZ.out;omega)).trans G03.out)
 have G14:=hid (show RowAt (w3.setRow x #[.int .i64 x1,.int .i64 x2]) y1 88 [.int .i64 2,.bool fk,.string fn,.string name,.string value,.bool tk,.string tn] from (setRow_other w3 x y1 #[.int .i64 x1,.int .i64 x2] (by have:=HZ1.out;omega)).trans G13.out)
 have HA4:=hid (HA3.out.setRow [.int .i64 x1,.int .i64 x2])
 have HX4:=hid (show Ext w (w3.setRow x #[.int .i64 x1,.int .i64 x2]) from below_setRow HX3.out hw2 _)
 have HXY:=hid hlt2
 clear HX3 HB3 HA3 hlt2 hw2 G0 G1 G03 G13 HZ HZ1
 go_simp
 generalize w3.setRow x #[.int .i64 x1,.int .i64 x2] = w4 at *
 apply wpList_nil
 go_upto_region 2 with fail
 refine wp_region_inv [10,11,12,13,14,15,16,17] _ (fun i=>([[],[],[1],[0,2],[3],[],[],[4,5,6],[7]]:List (List Nat)).getD i []) (PlF (fun bb W=>Ext w W ∧ RowAt W y0 98 (nmL vs m av) ∧ RowAt W y1 88 ([.int .i64 2,.bool fk,.string fn,.string name,.string value,.bool tk,.string tn]) ∧ RowAt W x 73 [.int .i64 x1,.int .i64 x2] ∧ RowAt W y2 75 (if bb = true then [.int .i64 0,.int .i64 (r0.getD 0),.int .i64 x1,.int .i64 x2,.int .i64 x1,.int .i64 x2] else [.int .i64 0,.int .i64 0,.int .i64 0,.int .i64 0,.int .i64 0,.int .i64 0])) [some (.agg (nmL vs m av).toArray),some (.pointer (some ⟨y1,3,none⟩)),some (.string name),r0.map intV,some (.agg #[.int .i64 0,.int .i64 (r0.getD 0)]),some (.agg #[.int .i64 x1,.int .i64 x2]),some (.agg #[.int .i64 x1,.int .i64 x2]),some (.agg #[.int .i64 0,.int .i64 (r0.getD 0),.int .i64 x1,.int .i64 x2,.int .i64 x1,.int .i64 x2])] 8) hmo (by kernel_rfl) (by kernel_rfl) (puts_self _ _) (PlF.start rfl (⟨HX4.out.trans (Ext.drewN w4 1),(show RowAt w4 y0 98 (nmL vs m av) from G04.out).ext (Ext.drewN w4 1),G14.out.ext (Ext.drewN w4 1),(show RowAt w4 x 73 [.int .i64 x1,.int .i64 x2] from HA4.out).ext (Ext.drewN w4 1),by rw [if_neg (by decide)];exact HB4.out.ext (Ext.drewN w4 1)⟩)) ?_ ?_
 ·refine ⟨?_,?_,?_,?_,?_,?_,?_,?_,?_,trivial⟩
  all_goals
   rintro S us wq hd hn hF K hK
   obtain ⟨u0,u1,u2,u3,u4,u5,u6,u7,rfl⟩:=len8 hF.len rfl
   have hI:=hF.inv
   have HK:=hid hK
   have HF:=hid hF
   have HN:=hid hn
   have HD:=hid hd
   clear hK hF hn hd
   simp only [puts,Act.put,qA,qB,qC]
  ·have hk:=HK.out _ wq (HF.out.put (i:=0) (v:=(.agg (nmL vs m av).toArray)) rfl (by decide) hI)
   simp only [puts,Act.put,qA,qB,qC] at hk
   rw [if_pos (show Region.wanted _ _ = true from rfl)]
   refine wp_load_mid _ _ rfl y0 0 rfl _ _ (hI.2.1.whole) Tryz.underlying98 rfl (by kernel_rfl) ?_
   exact hk
  ·have hk:=HK.out _ wq (HF.out.put (i:=1) (v:=.pointer (some ⟨y1,3,none⟩)) rfl (by decide) hI)
   simp only [puts,Act.put,qA,qB,qC] at hk
   go_simp
   exact hk
  ·obtain rfl:=HF.out.got (HD.out 1 (by decide)) (i:=1) rfl rfl
   have c:=hI.2.2.1.cell (i:=3) rfl
   have hk:=HK.out _ wq (HF.out.put (i:=2) (v:=.string name) rfl (by decide) hI)
   simp only [puts,Act.put,qA,qB,qC] at hk
   go_simp
   exact hk
  ·obtain rfl:=HF.out.got (HD.out 0 (by decide)) (i:=0) rfl rfl
   obtain rfl:=HF.out.got (HD.out 2 (by decide)) (i:=2) rfl rfl
   go_simp
   refine (HC0.out wq hI.1).mono ?_
   rintro e w2 ⟨rfl,hx2⟩
   rcases hr:r0 with _ | x
   ·unfold outE unknE
    go_wp2_with fail
    exact ⟨rfl,HN0.out hr,hI.1.trans hx2⟩
   ·have hk:=HK.out _ w2 (HF.out.put (i:=3) (v:=intV x) (by rw [hr];rfl) (by decide) ⟨hI.1.trans hx2,hI.2.1.ext hx2,hI.2.2.1.ext hx2,hI.2.2.2.1.ext hx2,hI.2.2.2.2.ext hx2⟩)
    simp only [puts,Act.put,qA,qB,qC] at hk
    unfold outE
    dsimp only
    go_simp
    exact hk
  ·obtain ⟨x3,hx3,rfl⟩:=HF.out.map (HD.out 3 (by decide)) (i:=3) rfl rfl
   subst hx3
   unfold intV
   have hk:=HK.out _ wq (HF.out.put (i:=4) (v:=.agg #[.int .i64 0,.int .i64 x3]) rfl (by decide) hI)
   simp only [puts,Act.put,qA,qB,qC] at hk
   go_simp
   exact hk
  ·have c:=hI.2.2.2.1.cell (i:=0) rfl
   have c2:=hI.2.2.2.1.cell (i:=1) rfl
   have hk:=HK.out _ wq (HF.out.put (i:=5) (v:=.agg #[.int .i64 x1,.int .i64 x2]) rfl (by decide) hI)
   simp only [puts,Act.put,qA,qB,qC] at hk
   go_simp
   exact hk
  ·have c:=hI.2.2.2.1.cell (i:=0) rfl
   have c2:=hI.2.2.2.1.cell (i:=1) rfl
   have hk:=HK.out _ wq (HF.out.put (i:=6) (v:=.agg #[.int .i64 x1,.int .i64 x2]) rfl (by decide) hI)
   simp only [puts,Act.put,qA,qB,qC] at hk
   go_simp
   exact hk
  ·obtain rfl:=HF.out.got (HD.out 4 (by decide)) (i:=4) rfl rfl
   obtain rfl:=HF.out.got (HD.out 5 (by decide)) (i:=5) rfl rfl
   obtain rfl:=HF.out.got (HD.out 6 (by decide)) (i:=6) rfl rfl
   have hk:=HK.out _ wq (HF.out.put (i:=7) (v:=.agg #[.int .i64 0,.int .i64 (r0.getD 0),.int .i64 x1,.int .i64 x2,.int .i64 x1,.int .i64 x2]) rfl (by decide) hI)
   simp only [puts,Act.put,qA,qB,qC] at hk
   go_simp
   exact hk
  ·obtain rfl:=HF.out.got (HD.out 7 (by decide)) (i:=7) rfl rfl
   rw [HN.out,if_neg (by decide)] at hI
   rw [if_pos (show Region.wanted _ _ = true from rfl)]
   refine wp_store_row _ _ _ rfl y2 ([.int .i64 0,.int .i64 (r0.getD 0),.int .i64 x1,.int .i64 x2,.int .i64 x1,.int .i64 x2]).toArray rfl rfl _ _ hI.2.2.2.2 (by kernel_rfl) rfl (all_oneCell_toArray (by simp [Value.oneCell'])) ?_
   have hk:=HK.out _ _ (HF.out.fin (Nat.le_refl _) ⟨show Ext w (wq.setRow y2 ([.int .i64 0,.int .i64 (r0.getD 0),.int .i64 x1,.int .i64 x2,.int .i64 x1,.int .i64 x2]).toArray) from below_setRow hI.1 HY.out.2.2 _,(setRow_other _ _ _ _ HY.out.1).trans hI.2.1,(setRow_other _ _ _ _ HY.out.2.1).trans hI.2.2.1,(setRow_other _ _ _ _ (by have:=HXY.out;omega)).trans hI.2.2.2.1,by rw [if_pos rfl];exact hI.2.2.2.2.setRow _⟩)
   simp only [puts,Act.put,qA,qB,qC] at hk
   exact hk
 ·rintro S us wq hS hF
  obtain ⟨u0,u1,u2,u3,u4,u5,u6,u7,rfl⟩:=len8 hF.len rfl
  obtain rfl:=hF.got (hS 0 (by decide)) (i:=0) rfl rfl
  obtain rfl:=hF.got (hS 1 (by decide)) (i:=1) rfl rfl
  obtain rfl:=hF.got (hS 2 (by decide)) (i:=2) rfl rfl
  obtain ⟨x3,hx3,rfl⟩:=hF.map (hS 3 (by decide)) (i:=3) rfl rfl
  obtain rfl:=hF.got (hS 4 (by decide)) (i:=4) rfl rfl
  obtain rfl:=hF.got (hS 5 (by decide)) (i:=5) rfl rfl
  obtain rfl:=hF.got (hS 6 (by decide)) (i:=6) rfl rfl
  obtain rfl:=hF.got (hS 7 (by decide)) (i:=7) rfl rfl
  have hI:=hF.inv
  rw [hS 8 (by decide)] at hI
  clear hF hS
  simp only [puts,Act.put,qA,qB,qC]
  subst hx3
  rw [if_pos rfl] at hI
  simp only [Option.getD_some] at hI ⊢
  have HR:=hid hI.2.2.2.2
  have HXX:=hid hI.1
  clear hI
  go_wp2_with fail
  exact bodyPost_ret (results_row0 rfl rfl HR.out Tryz.underlying75 rfl (by kernel_rfl)) rfl ⟨HX0.out _ ⟨x1,x2⟩ rfl hrx,HXX.out⟩
end

/- How an atom comes to a relation, or back: back, kind 1. -/
section
open Go.RowKit Go.Shelf Go.Sort
attribute [local go_sem] Oper.semAt_some wide_fn wide_depth
set_option maxHeartbeats 4000000 in
theorem way4_any (vs:Nat → Value × Value) (m:Nat) (a0:Option Addr) (c:Nat) (D:Dic) (V:List ByteArray) (w:World) (hV:DicV w vs D) (hS:DicS D) (h:DicOK D) (hA:Strs w (.slice a0 V.length c) V) (hl:V.length ≤ 1000000) (n:Int) (a b:Arg) :
 Calls Tryz.prog 121 #[nmV vs m (.slice a0 V.length c),bndV ⟨1,n,a,b⟩] w fun e w'=>e = outE ((atmF D V ⟨1,n,a,b⟩).map atm0) atV ∧ Ext w w':=by
 have hmo:Tryz.prog.follows .mixedOrders = true:=by kernel_rfl
 obtain ⟨X,hX⟩:∃ X,outE ((atmF D V ⟨1,n,a,b⟩).map atm0) atV = X:=⟨_,rfl⟩
 rw [hX]
 obtain ⟨hY,hN0,hN1⟩:=back_e1 hX
 obtain ⟨r0,hr0⟩:∃ r,termF D V a = r:=⟨_,rfl⟩
 have hC0:=fun w' (hx:Ext w w')=>nterm_any vs m a0 c D V w' (hV.ext hx) hS h (Strs.ext hA hx) hl a
 obtain ⟨r1,hr1⟩:∃ r,nameO D 1 n = r:=⟨_,rfl⟩
 have hC1:=fun w' (hx:Ext w w')=>nname_any vs m (.slice a0 V.length c) D w' (hV.ext hx) hS h 1 (by omega) n
 rw [hr0] at hY hN0 hC0
 rw [hr1] at hY hN1 hC1
 have HX0:=hid hY
 have HN0:=hid hN0
 have HC0:=hid hC0
 have HN1:=hid hN1
 have HC1:=hid hC1
 clear hX hY hN0 hC0 hr0 hN1 hC1 hr1 hV hS h hA hl
 unfold nmV bndV bndCells argV at *
 try dsimp only at *
 generalize Value.slice a0 V.length c = av at *
 have hbx:=boxes3 w (nmL vs m av) 98 ([.int .i64 1,.int .i64 n,.int .i64 a.var,.int .i64 a.id,.int .i64 b.var,.int .i64 b.id]) 75 ([.int .i64 0,.bool false,.string ⟨#[]⟩,.string ⟨#[]⟩,.string ⟨#[]⟩,.bool false,.string ⟨#[]⟩]) 88
 have HBX:=hid hbx
 clear hbx
 go_enter Tryz.func121,Tryz.ntmps121
 go_upto_region 1 with fail
 generalize ((w.alloc (.cells (nmL vs m av).toArray 98)).alloc (.cells ([.int .i64 1,.int .i64 n,.int .i64 a.var,.int .i64 a.id,.int .i64 b.var,.int .i64 b.id]).toArray 75)).alloc (.cells ([.int .i64 0,.bool false,.string ⟨#[]⟩,.string ⟨#[]⟩,.string ⟨#[]⟩,.bool false,.string ⟨#[]⟩]).toArray 88) = w1 at *
 obtain ⟨y0,hy0⟩:∃ x,w.heap.size = x:=⟨_,rfl⟩
 obtain ⟨y1,hy1⟩:∃ x,y0 + 1 = x:=⟨_,rfl⟩
 obtain ⟨y2,hy2⟩:∃ x,y1 + 1 = x:=⟨_,rfl⟩
 rw [hy0,hy1,hy2] at HBX
 simp only [hy0,hy1,hy2]
 have HN:=hid (show w.heap.size = y0 ∧ y0 + 1 = y1 ∧ y1 + 1 = y2 from ⟨hy0,hy1,hy2⟩)
 have HX:=hid HBX.out.1
 have H0:=hid HBX.out.2.1
 have H1:=hid HBX.out.2.2.1
 have H2:=hid HBX.out.2.2.2
 clear hy0 hy1 hy2 HBX
 have HY:=hid (show y0 ≠ y2 ∧ y1 ≠ y2 ∧ w.heap.size ≤ y2 by have:=HN.out;omega)
 clear HN
 refine wp_region_inv [5,6,7,8,9,10,11,12,13,14] _ (fun i=>([[],[],[1],[0,2],[],[],[5],[6],[4,7],[3,8],[9]]:List (List Nat)).getD i []) (PlF (fun bb W=>Ext w W ∧ RowAt W y0 98 (nmL vs m av) ∧ RowAt W y1 75 ([.int .i64 1,.int .i64 n,.int .i64 a.var,.int .i64 a.id,.int .i64 b.var,.int .i64 b.id]) ∧ RowAt W y2 88 (if bb = true then [.int .i64 0,.bool (r0.getD (false,nilB)).1,.string (r0.getD (false,nilB)).2,.string (r1.getD nilB),.string ⟨#[]⟩,.bool false,.string ⟨#[]⟩] else [.int .i64 0,.bool false,.string ⟨#[]⟩,.string ⟨#[]⟩,.string ⟨#[]⟩,.bool false,.string ⟨#[]⟩])) [some (.agg (nmL vs m av).toArray),some (.pointer (some ⟨y1,2,none⟩)),some (.agg #[.int .i64 a.var,.int .i64 a.id]),r0.map termV,some (.agg (nmL vs m av).toArray),some (.pointer (some ⟨y1,0,none⟩)),some (.pointer (some ⟨y1,1,none⟩)),some (.int .i64 n),r1.map strV,some (.agg #[.int .i64 0,.bool (r0.getD (false,nilB)).1,.string (r0.getD (false,nilB)).2,.string (r1.getD nilB),.string ⟨#[]⟩,.bool false,.string ⟨#[]⟩])] 10) hmo (by kernel_rfl) (by kernel_rfl) (puts_self _ _) (PlF.start rfl (⟨HX.out.trans (Ext.drewN w1 1),H0.out.ext (Ext.drewN w1 1),H1.out.ext (Ext.drewN w1 1),by rw [if_neg (by decide)];exact H2.out.ext (Ext.drewN w1 1)⟩)) ?_ ?_
 ·refine ⟨?_,?_,?_,?_,?_,?_,?_,?_,?_,?_,?_,trivial⟩
  all_goals
   rintro S us wq hd hn hF K hK
   obtain ⟨u0,u1,u2,u3,u4,u5,u6,u7,u8,u9,rfl⟩:=len10 hF.len rfl
   have hI:=hF.inv
   have HK:=hid hK
   have HF:=hid hF
   have HN:=hid hn
   have HD:=hid hd
   clear hK hF hn hd
   simp only [puts,Act.put,qA,qB,qC]
  ·have hk:=HK.out _ wq (HF.out.put (i:=0) (v:=(.agg (nmL vs m av).toArray)) rfl (by decide) hI)
   simp only [puts,Act.put,qA,qB,qC] at hk
   rw [if_pos (show Region.wanted _ _ = true from rfl)]
   refine wp_load_mid _ _ rfl y0 0 rfl _ _ (hI.2.1.whole) Tryz.underlying98 rfl (by kernel_rfl) ?_
   exact hk
  ·have hk:=HK.out _ wq (HF.out.put (i:=1) (v:=.pointer (some ⟨y1,2,none⟩)) rfl (by decide) hI)
   simp only [puts,Act.put,qA,qB,qC] at hk
   go_simp
   exact hk
  ·obtain rfl:=HF.out.got (HD.out 1 (by decide)) (i:=1) rfl rfl
   have c:=hI.2.2.1.cell (i:=2) rfl
   have c2:=hI.2.2.1.cell (i:=3) rfl
   have hk:=HK.out _ wq (HF.out.put (i:=2) (v:=.agg #[.int .i64 a.var,.int .i64 a.id]) rfl (by decide) hI)
   simp only [puts,Act.put,qA,qB,qC] at hk
   go_simp
   exact hk
  ·obtain rfl:=HF.out.got (HD.out 0 (by decide)) (i:=0) rfl rfl
   obtain rfl:=HF.out.got (HD.out 2 (by decide)) (i:=2) rfl rfl
   go_simp
   refine (HC0.out wq hI.1).mono ?_
   rintro e w2 ⟨rfl,hx2⟩
   rcases hr:r0 with _ | x
   ·unfold outE unknE
    go_wp2_with fail
    exact ⟨rfl,HN0.out hr,hI.1.trans hx2⟩
   ·have hk:=HK.out _ w2 (HF.out.put (i:=3) (v:=termV x) (by rw [hr];rfl) (by decide) ⟨hI.1.trans hx2,hI.2.1.ext hx2,hI.2.2.1.ext hx2,hI.2.2.2.ext hx2⟩)
    simp only [puts,Act.put,qA,qB,qC] at hk
    unfold outE
    dsimp only
    go_simp
    exact hk
  ·have hk:=HK.out _ wq (HF.out.put (i:=4) (v:=(.agg (nmL vs m av).toArray)) rfl (by decide) hI)
   simp only [puts,Act.put,qA,qB,qC] at hk
   rw [if_pos (show Region.wanted _ _ = true from rfl)]
   refine wp_load_mid _ _ rfl y0 0 rfl _ _ (hI.2.1.whole) Tryz.underlying98 rfl (by kernel_rfl) ?_
   exact hk
  ·have hk:=HK.out _ wq (HF.out.put (i:=5) (v:=.pointer (some ⟨y1,0,none⟩)) rfl (by decide) hI)
   simp only [puts,Act.put,qA,qB,qC] at hk
   go_simp
   exact hk
  ·obtain rfl:=HF.out.got (HD.out 5 (by decide)) (i:=5) rfl rfl
   have hk:=HK.out _ wq (HF.out.put (i:=6) (v:=.pointer (some ⟨y1,1,none⟩)) rfl (by decide) hI)
   simp only [puts,Act.put,qA,qB,qC] at hk
   go_simp
   exact hk
  ·obtain rfl:=HF.out.got (HD.out 6 (by decide)) (i:=6) rfl rfl
   have c:=hI.2.2.1.cell (i:=1) rfl
   have hk:=HK.out _ wq (HF.out.put (i:=7) (v:=.int .i64 n) rfl (by decide) hI)
   simp only [puts,Act.put,qA,qB,qC] at hk
   go_simp
   exact hk
  ·obtain rfl:=HF.out.got (HD.out 4 (by decide)) (i:=4) rfl rfl
   obtain rfl:=HF.out.got (HD.out 7 (by decide)) (i:=7) rfl rfl
   go_simp
   refine (HC1.out wq hI.1).mono ?_
   rintro e w2 ⟨rfl,hx2⟩
   rcases hr:r1 with _ | x
   ·unfold outE unknE
    go_wp2_with fail
    exact ⟨rfl,HN1.out hr,hI.1.trans hx2⟩
   ·have hk:=HK.out _ w2 (HF.out.put (i:=8) (v:=strV x) (by rw [hr];rfl) (by decide) ⟨hI.1.trans hx2,hI.2.1.ext hx2,hI.2.2.1.ext hx2,hI.2.2.2.ext hx2⟩)
    simp only [puts,Act.put,qA,qB,qC] at hk
    unfold outE
    dsimp only
    go_simp
    exact hk
  ·obtain ⟨x3,hx3,rfl⟩:=HF.out.map (HD.out 3 (by decide)) (i:=3) rfl rfl
   obtain ⟨x8,hx8,rfl⟩:=HF.out.map (HD.out 8 (by decide)) (i:=8) rfl rfl
   subst hx3 hx8
   unfold termV strV
   have hk:=HK.out _ wq (HF.out.put (i:=9) (v:=.agg #[.int .i64 0,.bool x3.1,.string x3.2,.string x8,.string ⟨#[]⟩,.bool false,.string ⟨#[]⟩]) rfl (by decide) hI)
   simp only [puts,Act.put,qA,qB,qC] at hk
   go_simp
   exact hk
  ·obtain rfl:=HF.out.got (HD.out 9 (by decide)) (i:=9) rfl rfl
   rw [HN.out,if_neg (by decide)] at hI
   rw [if_pos (show Region.wanted _ _ = true from rfl)]
   refine wp_store_row _ _ _ rfl y2 ([.int .i64 0,.bool (r0.getD (false,nilB)).1,.string (r0.getD (false,nilB)).2,.string (r1.getD nilB),.string ⟨#[]⟩,.bool false,.string ⟨#[]⟩]).toArray rfl rfl _ _ hI.2.2.2 (by kernel_rfl) rfl (all_oneCell_toArray (by simp [Value.oneCell'])) ?_
   have hk:=HK.out _ _ (HF.out.fin (Nat.le_refl _) ⟨show Ext w (wq.setRow y2 ([.int .i64 0,.bool (r0.getD (false,nilB)).1,.string (r0.getD (false,nilB)).2,.string (r1.getD nilB),.string ⟨#[]⟩,.bool false,.string ⟨#[]⟩]).toArray) from below_setRow hI.1 HY.out.2.2 _,(setRow_other _ _ _ _ HY.out.1).trans hI.2.1,(setRow_other _ _ _ _ HY.out.2.1).trans hI.2.2.1,by rw [if_pos rfl];exact hI.2.2.2.setRow _⟩)
   simp only [puts,Act.put,qA,qB,qC] at hk
   exact hk
 ·rintro S us wq hS hF
  obtain ⟨u0,u1,u2,u3,u4,u5,u6,u7,u8,u9,rfl⟩:=len10 hF.len rfl
  obtain rfl:=hF.got (hS 0 (by decide)) (i:=0) rfl rfl
  obtain rfl:=hF.got (hS 1 (by decide)) (i:=1) rfl rfl
  obtain rfl:=hF.got (hS 2 (by decide)) (i:=2) rfl rfl
  obtain ⟨x3,hx3,rfl⟩:=hF.map (hS 3 (by decide)) (i:=3) rfl rfl
  obtain rfl:=hF.got (hS 4 (by decide)) (i:=4) rfl rfl
  obtain rfl:=hF.got (hS 5 (by decide)) (i:=5) rfl rfl
  obtain rfl:=hF.got (hS 6 (by decide)) (i:=6) rfl rfl
  obtain rfl:=hF.got (hS 7 (by decide)) (i:=7) rfl rfl
  obtain ⟨x8,hx8,rfl⟩:=hF.map (hS 8 (by decide)) (i:=8) rfl rfl
  obtain rfl:=hF.got (hS 9 (by decide)) (i:=9) rfl rfl
  have hI:=hF.inv
  rw [hS 10 (by decide)] at hI
  clear hF hS
  simp only [puts,Act.put,qA,qB,qC]
  subst hx3 hx8
  rw [if_pos rfl] at hI
  simp only [Option.getD_some] at hI ⊢
  have HR:=hid hI.2.2.2
  have HXX:=hid hI.1
  clear hI
  go_wp2_with fail
  exact bodyPost_ret (results_row0 rfl rfl HR.out Tryz.underlying88 rfl (by kernel_rfl)) rfl ⟨HX0.out _ _ rfl rfl,HXX.out⟩
end

end Go.Proofs.YtkmbnghghbfkdaaGreat
