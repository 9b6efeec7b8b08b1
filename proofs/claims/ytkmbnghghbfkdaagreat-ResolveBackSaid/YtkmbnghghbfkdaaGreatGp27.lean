/- How an atom comes to a relation, or back: edges. -/
import Derived.Test.YtkmbnghghbfkdaaGreatGp24
set_option linter.unusedSimpArgs false
set_option linter.unusedVariables false
set_option maxHeartbeats 2000000
set_option maxRecDepth 100000
namespace Go.Proofs.YtkmbnghghbfkdaaGreat
open Go.Lib (hid)

section
open Go.RowKit Go.Shelf Go.Sort
attribute [local go_sem] Oper.semAt_some wide_fn wide_depth
set_option maxHeartbeats 4000000 in
theorem way7_any (vs:Nat → Value × Value) (m:Nat) (av:Value) (D:Dic) (V:List ByteArray) (w:World) (hV:DicV w vs D) (hS:DicS D) (h:DicOK D) (hm:VarsAt w m V) (hd:Distinct V) (fk:Bool) (fn name value:ByteArray) (tk:Bool) (tn:ByteArray)
 (hf:(⟨4,fk,fn,name,value,tk,tn⟩:Atm).Fits) (hin:(⟨4,fk,fn,name,value,tk,tn⟩:Atm).In V) :
 Calls Tryz.prog 125 #[nmV vs m av,atV ⟨4,fk,fn,name,value,tk,tn⟩] w fun e w'=>e = outE ((bndF D V ⟨4,fk,fn,name,value,tk,tn⟩).map bnd0) bndV ∧ Ext w w':=by
 have hmo:Tryz.prog.follows .mixedOrders = true:=by kernel_rfl
 obtain ⟨X,hX⟩:∃ X,outE ((bndF D V ⟨4,fk,fn,name,value,tk,tn⟩).map bnd0) bndV = X:=⟨_,rfl⟩
 rw [hX]
 obtain ⟨hY,hN0,hN1,hN2⟩:=way_e rfl hX
 obtain ⟨r0,hr0⟩:∃ r,idO D 2 name = r:=⟨_,rfl⟩
 obtain ⟨r1,hr1⟩:∃ r,argF D V fk fn = r:=⟨_,rfl⟩
 obtain ⟨r2,hr2⟩:∃ r,argF D V tk tn = r:=⟨_,rfl⟩
 have hC0:=fun w' (hx:Ext w w')=>nid_any vs m av D w' (hV.ext hx) hS h 2 name (by have:=hf.name;dsimp only at this;omega)
 have hC1:=fun w' (hx:Ext w w')=>narg_any vs m av D V w' (hV.ext hx) hS h (hm.ext hx) hd fk fn (by have:=hf.fn;dsimp only at this;omega) hin.1
 have hC2:=fun w' (hx:Ext w w')=>narg_any vs m av D V w' (hV.ext hx) hS h (hm.ext hx) hd tk tn (by have:=hf.tn;dsimp only at this;omega) (hin.2 rfl)
 rw [hr0] at hY hN0 hC0
 rw [hr1] at hY hN1 hC1
 rw [hr2] at hY hN2 hC2
 have HX0:=hid hY
 have HN0:=hid hN0
 have HN1:=hid hN1
 have HN2:=hid hN2
 have HC0:=hid hC0
 have HC1:=hid hC1
 have HC2:=hid hC2
 clear hX hY hN0 hN1 hN2 hC0 hC1 hC2 hr0 hr1 hr2 hV hS h hm hd hf hin
 unfold nmV atV at *
 dsimp only at *
 have hbx:=boxes3 w (nmL vs m av) 98 ([.int .i64 4,.bool fk,.string fn,.string name,.string value,.bool tk,.string tn]) 88 ([.int .i64 0,.int .i64 0,.int .i64 0,.int .i64 0,.int .i64 0,.int .i64 0]) 75
 have HBX:=hid hbx
 clear hbx
 go_enter Tryz.func125,Tryz.ntmps125
 go_upto_region 1 with fail
 generalize ((w.alloc (.cells (nmL vs m av).toArray 98)).alloc (.cells ([.int .i64 4,.bool fk,.string fn,.string name,.string value,.bool tk,.string tn]).toArray 88)).alloc (.cells ([.int .i64 0,.int .i64 0,.int .i64 0,.int .i64 0,.int .i64 0,.int .i64 0]).toArray 75) = w1 at *
 obtain ⟨y0,hy0⟩:∃ x,w.heap.size = x:=⟨_,rfl⟩
 obtain ⟨y1,hy1⟩:∃ x,y0 + 1 = x:=⟨_,rfl⟩
 obtain ⟨y2,hy2⟩:∃ x,y1 + 1 = x:=⟨_,rfl⟩
 rw [hy0,hy1,hy2] at HBX
 simp only [hy0,hy1,hy2]
 have HN:=hid (show w.heap.size = y0 ∧ y0 + 1 = y1 ∧ y1 + 1 = y2 from ⟨hy0,hy1,hy2⟩)
 have HX:=hid HBX.out.1
 have H0:=hid HBX.out.2.1
 have H1:=hid HBX.out.2.2.1
 have H2:=hid HBX.out.2.2.2
 clear hy0 hy1 hy2 HBX
 have HY:=hid (show y0 ≠ y2 ∧ y1 ≠ y2 ∧ w.heap.size ≤ y2 by have:=HN.out;omega)
 clear HN
 refine wp_region_inv [5,6,7,8,9,10,11,12,13,14,15,16,17,18] _ (fun i=>([[],[],[1],[0,2],[3],[],[],[6],[5,7],[],[],[10],[9,11],[4,8,12],[13]]:List (List Nat)).getD i []) (PlF (fun b W=>Ext w W ∧ RowAt W y0 98 (nmL vs m av) ∧ RowAt W y1 88 ([.int .i64 4,.bool fk,.string fn,.string name,.string value,.bool tk,.string tn]) ∧ RowAt W y2 75 (if b = true then [.int .i64 0,.int .i64 (r0.getD 0),.int .i64 (r1.getD zA).var,.int .i64 (r1.getD zA).id,.int .i64 (r2.getD zA).var,.int .i64 (r2.getD zA).id] else [.int .i64 0,.int .i64 0,.int .i64 0,.int .i64 0,.int .i64 0,.int .i64 0])) [some (.agg (nmL vs m av).toArray),some (.pointer (some ⟨y1,3,none⟩)),some (.string name),r0.map intV,some (.agg #[.int .i64 0,.int .i64 (r0.getD 0)]),some (.agg (nmL vs m av).toArray),some (.pointer (some ⟨y1,1,none⟩)),some (.agg #[.bool fk,.string fn]),r1.map argV,some (.agg (nmL vs m av).toArray),some (.pointer (some ⟨y1,5,none⟩)),some (.agg #[.bool tk,.string tn]),r2.map argV,some (.agg #[.int .i64 0,.int .i64 (r0.getD 0),.int .i64 (r1.getD zA).var,.int .i64 (r1.getD zA).id,.int .i64 (r2.getD zA).var,.int .i64 (r2.getD zA).id])] 14) hmo (by kernel_rfl) (by kernel_rfl) (puts_self _ _) (PlF.start rfl (⟨HX.out.trans (Ext.drewN w1 1),H0.out.ext (Ext.drewN w1 1),H1.out.ext (Ext.drewN w1 1),by rw [if_neg (by decide)];exact H2.out.ext (Ext.drewN w1 1)⟩)) ?_ ?_
 ·refine ⟨?_,?_,?_,?_,?_,?_,?_,?_,?_,?_,?_,?_,?_,?_,?_,trivial⟩
  all_goals
   rintro S us wq hd hn hF K hK
   obtain ⟨u0,u1,u2,u3,u4,u5,u6,u7,u8,u9,u10,u11,u12,u13,rfl⟩:=len14 hF.len rfl
   have hI:=hF.inv
   have HK:=hid hK
   have HF:=hid hF
   have HN:=hid hn
   have HD:=hid hd
   clear hK hF hn hd
   simp only [puts,Act.put,qA,qB,qC]
  ·have hk:=HK.out _ wq (HF.out.put (i:=0) (v:=(.agg (nmL vs m av).toArray)) rfl (by decide) hI)
   simp only [puts,Act.put,qA,qB,qC] at hk
   rw [if_pos (show Region.wanted _ _ = true from rfl)]
   refine wp_load_mid _ _ rfl y0 0 rfl _ _ (hI.2.1.whole) Tryz.underlying98 rfl (by kernel_rfl) ?_
   exact hk
  ·have hk:=HK.out _ wq (HF.out.put (i:=1) (v:=(.pointer (some ⟨y1,3,none⟩))) rfl (by decide) hI)
   simp only [puts,Act.put,qA,qB,qC] at hk
   go_simp
   exact hk
  ·obtain rfl:=HF.out.got (HD.out 1 (by decide)) (i:=1) rfl rfl
   have c:=hI.2.2.1.cell (i:=3) rfl
   have hk:=HK.out _ wq (HF.out.put (i:=2) (v:=.string name) rfl (by decide) hI)
   simp only [puts,Act.put,qA,qB,qC] at hk
   go_simp
   exact hk
  ·obtain rfl:=HF.out.got (HD.out 0 (by decide)) (i:=0) rfl rfl
   obtain rfl:=HF.out.got (HD.out 2 (by decide)) (i:=2) rfl rfl
   go_simp
   refine (HC0.out wq hI.1).mono ?_
   rintro e w2 ⟨rfl,hx2⟩
   rcases hr:r0 with _ | x
   ·unfold outE unknE
    go_wp2_with fail
    exact ⟨rfl,HN0.out hr,hI.1.trans hx2⟩
   ·have hk:=HK.out _ w2 (HF.out.put (i:=3) (v:=intV x) (by rw [hr];rfl) (by decide) ⟨hI.1.trans hx2,hI.2.1.ext hx2,hI.2.2.1.ext hx2,hI.2.2.2.ext hx2⟩)
    simp only [puts,Act.put,qA,qB,qC] at hk
    unfold outE
    dsimp only
    go_simp
    exact hk
  ·obtain ⟨x3,hx3,rfl⟩:=HF.out.map (HD.out 3 (by decide)) (i:=3) rfl rfl
   subst hx3
   unfold intV
   have hk:=HK.out _ wq (HF.out.put (i:=4) (v:=.agg #[.int .i64 0,.int .i64 x3]) rfl (by decide) hI)
   simp only [puts,Act.put,qA,qB,qC] at hk
   go_simp
   exact hk
  ·have hk:=HK.out _ wq (HF.out.put (i:=5) (v:=(.agg (nmL vs m av).toArray)) rfl (by decide) hI)
   simp only [puts,Act.put,qA,qB,qC] at hk
   rw [if_pos (show Region.wanted _ _ = true from rfl)]
   refine wp_load_mid _ _ rfl y0 0 rfl _ _ (hI.2.1.whole) Tryz.underlying98 rfl (by kernel_rfl) ?_
   exact hk
  ·have hk:=HK.out _ wq (HF.out.put (i:=6) (v:=(.pointer (some ⟨y1,1,none⟩))) rfl (by decide) hI)
   simp only [puts,Act.put,qA,qB,qC] at hk
   go_simp
   exact hk
  ·obtain rfl:=HF.out.got (HD.out 6 (by decide)) (i:=6) rfl rfl
   have c:=hI.2.2.1.cell (i:=1) rfl
   have c2:=hI.2.2.1.cell (i:=2) rfl
   have hk:=HK.out _ wq (HF.out.put (i:=7) (v:=.agg #[.bool fk,.string fn]) rfl (by decide) hI)
   simp only [puts,Act.put,qA,qB,qC] at hk
   go_simp
   exact hk
  ·obtain rfl:=HF.out.got (HD.out 5 (by decide)) (i:=5) rfl rfl
   obtain rfl:=HF.out.got (HD.out 7 (by decide)) (i:=7) rfl rfl
   go_simp
   refine (HC1.out wq hI.1).mono ?_
   rintro e w2 ⟨rfl,hx2⟩
   rcases hr:r1 with _ | x
   ·unfold outE unknE
    go_wp2_with fail
    exact ⟨rfl,HN1.out hr,hI.1.trans hx2⟩
   ·have hk:=HK.out _ w2 (HF.out.put (i:=8) (v:=argV x) (by rw [hr];rfl) (by decide) ⟨hI.1.trans hx2,hI.2.1.ext hx2,hI.2.2.1.ext hx2,hI.2.2.2.ext hx2⟩)
    simp only [puts,Act.put,qA,qB,qC] at hk
    unfold outE
    dsimp only
    go_simp
    exact hk
  ·have hk:=HK.out _ wq (HF.out.put (i:=9) (v:=(.agg (nmL vs m av).toArray)) rfl (by decide) hI)
   simp only [puts,Act.put,qA,qB,qC] at hk
   rw [if_pos (show Region.wanted _ _ = true from rfl)]
   refine wp_load_mid _ _ rfl y0 0 rfl _ _ (hI.2.1.whole) Tryz.underlying98 rfl (by kernel_rfl) ?_
   exact hk
  ·have hk:=HK.out _ wq (HF.out.put (i:=10) (v:=(.pointer (some ⟨y1,5,none⟩))) rfl (by decide) hI)
   simp only [puts,Act.put,qA,qB,qC] at hk
   go_simp
   exact hk
  ·obtain rfl:=HF.out.got (HD.out 10 (by decide)) (i:=10) rfl rfl
   have c:=hI.2.2.1.cell (i:=5) rfl
   have c2:=hI.2.2.1.cell (i:=6) rfl
   have hk:=HK.out _ wq (HF.out.put (i:=11) (v:=.agg #[.bool tk,.string tn]) rfl (by decide) hI)
   simp only [puts,Act.put,qA,qB,qC] at hk
   go_simp
   exact hk
  ·obtain rfl:=HF.out.got (HD.out 9 (by decide)) (i:=9) rfl rfl
   obtain rfl:=HF.out.got (HD.out 11 (by decide)) (i:=11) rfl rfl
   go_simp
   refine (HC2.out wq hI.1).mono ?_
   rintro e w2 ⟨rfl,hx2⟩
   rcases hr:r2 with _ | x
   ·unfold outE unknE
    go_wp2_with fail
    exact ⟨rfl,HN2.out hr,hI.1.trans hx2⟩
   ·have hk:=HK.out _ w2 (HF.out.put (i:=12) (v:=argV x) (by rw [hr];rfl) (by decide) ⟨hI.1.trans hx2,hI.2.1.ext hx2,hI.2.2.1.ext hx2,hI.2.2.2.ext hx2⟩)
    simp only [puts,Act.put,qA,qB,qC] at hk
    unfold outE
    dsimp only
    go_simp
    exact hk
  ·obtain rfl:=HF.out.got (HD.out 4 (by decide)) (i:=4) rfl rfl
   obtain ⟨x8,hx8,rfl⟩:=HF.out.map (HD.out 8 (by decide)) (i:=8) rfl rfl
   obtain ⟨x12,hx12,rfl⟩:=HF.out.map (HD.out 12 (by decide)) (i:=12) rfl rfl
   subst hx8 hx12
   unfold argV
   have hk:=HK.out _ wq (HF.out.put (i:=13) (v:=.agg #[.int .i64 0,.int .i64 (r0.getD 0),.int .i64 x8.var,.int .i64 x8.id,.int .i64 x12.var,.int .i64 x12.id]) rfl (by decide) hI)
   simp only [puts,Act.put,qA,qB,qC] at hk
   go_simp
   exact hk
  ·obtain rfl:=HF.out.got (HD.out 13 (by decide)) (i:=13) rfl rfl
   rw [HN.out,if_neg (by decide)] at hI
   rw [if_pos (show Region.wanted _ _ = true from rfl)]
   refine wp_store_row _ _ _ rfl y2 ([.int .i64 0,.int .i64 (r0.getD 0),.int .i64 (r1.getD zA).var,.int .i64 (r1.getD zA).id,.int .i64 (r2.getD zA).var,.int .i64 (r2.getD zA).id]).toArray rfl rfl _ _ hI.2.2.2 (by kernel_rfl) rfl (all_oneCell_toArray (by simp [Value.oneCell'])) ?_
   have hk:=HK.out _ _ (HF.out.fin (Nat.le_refl _) ⟨show Ext w (wq.setRow y2 ([.int .i64 0,.int .i64 (r0.getD 0),.int .i64 (r1.getD zA).var,.int .i64 (r1.getD zA).id,.int .i64 (r2.getD zA).var,.int .i64 (r2.getD zA).id]).toArray) from below_setRow hI.1 HY.out.2.2 _,(setRow_other _ _ _ _ HY.out.1).trans hI.2.1,(setRow_other _ _ _ _ HY.out.2.1).trans hI.2.2.1,by rw [if_pos rfl];exact hI.2.2.2.setRow _⟩)
   simp only [puts,Act.put,qA,qB,qC] at hk
   exact hk
 ·rintro S us wq hS hF
  obtain ⟨u0,u1,u2,u3,u4,u5,u6,u7,u8,u9,u10,u11,u12,u13,rfl⟩:=len14 hF.len rfl
  obtain rfl:=hF.got (hS 0 (by decide)) (i:=0) rfl rfl
  obtain rfl:=hF.got (hS 1 (by decide)) (i:=1) rfl rfl
  obtain rfl:=hF.got (hS 2 (by decide)) (i:=2) rfl rfl
  obtain ⟨x3,hx3,rfl⟩:=hF.map (hS 3 (by decide)) (i:=3) rfl rfl
  obtain rfl:=hF.got (hS 4 (by decide)) (i:=4) rfl rfl
  obtain rfl:=hF.got (hS 5 (by decide)) (i:=5) rfl rfl
  obtain rfl:=hF.got (hS 6 (by decide)) (i:=6) rfl rfl
  obtain rfl:=hF.got (hS 7 (by decide)) (i:=7) rfl rfl
  obtain ⟨x8,hx8,rfl⟩:=hF.map (hS 8 (by decide)) (i:=8) rfl rfl
  obtain rfl:=hF.got (hS 9 (by decide)) (i:=9) rfl rfl
  obtain rfl:=hF.got (hS 10 (by decide)) (i:=10) rfl rfl
  obtain rfl:=hF.got (hS 11 (by decide)) (i:=11) rfl rfl
  obtain ⟨x12,hx12,rfl⟩:=hF.map (hS 12 (by decide)) (i:=12) rfl rfl
  obtain rfl:=hF.got (hS 13 (by decide)) (i:=13) rfl rfl
  have hI:=hF.inv
  rw [hS 14 (by decide)] at hI
  clear hF hS
  simp only [puts,Act.put,qA,qB,qC]
  subst hx3 hx8 hx12
  rw [if_pos rfl] at hI
  simp only [Option.getD_some] at hI ⊢
  have HR:=hid hI.2.2.2
  have HXX:=hid hI.1
  clear hI
  go_wp2_with fail
  exact bodyPost_ret (results_row0 rfl rfl HR.out Tryz.underlying75 rfl (by kernel_rfl)) rfl ⟨HX0.out _ _ _ rfl rfl rfl,HXX.out⟩
end

/- How an atom comes to a relation, or back: back, kind 3. -/
section
open Go.RowKit Go.Shelf Go.Sort
attribute [local go_sem] Oper.semAt_some wide_fn wide_depth
set_option maxHeartbeats 4000000 in
theorem way8_any (vs:Nat → Value × Value) (m:Nat) (a0:Option Addr) (c:Nat) (D:Dic) (V:List ByteArray) (w:World) (hV:DicV w vs D) (hS:DicS D) (h:DicOK D) (hA:Strs w (.slice a0 V.length c) V) (hl:V.length ≤ 1000000) (n:Int) (a b:Arg) :
 Calls Tryz.prog 126 #[nmV vs m (.slice a0 V.length c),bndV ⟨3,n,a,b⟩] w fun e w'=>e = outE ((atmF D V ⟨3,n,a,b⟩).map atm0) atV ∧ Ext w w':=by
 have hmo:Tryz.prog.follows .mixedOrders = true:=by kernel_rfl
 obtain ⟨X,hX⟩:∃ X,outE ((atmF D V ⟨3,n,a,b⟩).map atm0) atV = X:=⟨_,rfl⟩
 rw [hX]
 obtain ⟨hY,hN0,hN1,hN2⟩:=back_e3 hX
 obtain ⟨r0,hr0⟩:∃ r,termF D V a = r:=⟨_,rfl⟩
 have hC0:=fun w' (hx:Ext w w')=>nterm_any vs m a0 c D V w' (hV.ext hx) hS h (Strs.ext hA hx) hl a
 obtain ⟨r1,hr1⟩:∃ r,nameO D 2 n = r:=⟨_,rfl⟩
 have hC1:=fun w' (hx:Ext w w')=>nname_any vs m (.slice a0 V.length c) D w' (hV.ext hx) hS h 2 (by omega) n
 obtain ⟨r2,hr2⟩:∃ r,termF D V b = r:=⟨_,rfl⟩
 have hC2:=fun w' (hx:Ext w w')=>nterm_any vs m a0 c D V w' (hV.ext hx) hS h (Strs.ext hA hx) hl b
 rw [hr0] at hY hN0 hC0
 rw [hr1] at hY hN1 hC1
 rw [hr2] at hY hN2 hC2
 have HX0:=hid hY
 have HN0:=hid hN0
 have HC0:=hid hC0
 have HN1:=hid hN1
 have HC1:=hid hC1
 have HN2:=hid hN2
 have HC2:=hid hC2
 clear hX hY hN0 hC0 hr0 hN1 hC1 hr1 hN2 hC2 hr2 hV hS h hA hl
 unfold nmV bndV bndCells argV at *
 try dsimp only at *
 generalize Value.slice a0 V.length c = av at *
 have hbx:=boxes3 w (nmL vs m av) 98 ([.int .i64 3,.int .i64 n,.int .i64 a.var,.int .i64 a.id,.int .i64 b.var,.int .i64 b.id]) 75 ([.int .i64 0,.bool false,.string ⟨#[]⟩,.string ⟨#[]⟩,.string ⟨#[]⟩,.bool false,.string ⟨#[]⟩]) 88
 have HBX:=hid hbx
 clear hbx
 go_enter Tryz.func126,Tryz.ntmps126
 go_upto_region 1 with fail
 generalize ((w.alloc (.cells (nmL vs m av).toArray 98)).alloc (.cells ([.int .i64 3,.int .i64 n,.int .i64 a.var,.int .i64 a.id,.int .i64 b.var,.int .i64 b.id]).toArray 75)).alloc (.cells ([.int .i64 0,.bool false,.string ⟨#[]⟩,.string ⟨#[]⟩,.string ⟨#[]⟩,.bool false,.string ⟨#[]⟩]).toArray 88) = w1 at *
 obtain ⟨y0,hy0⟩:∃ x,w.heap.size = x:=⟨_,rfl⟩
 obtain ⟨y1,hy1⟩:∃ x,y0 + 1 = x:=⟨_,rfl⟩
 obtain ⟨y2,hy2⟩:∃ x,y1 + 1 = x:=⟨_,rfl⟩
 rw [hy0,hy1,hy2] at HBX
 simp only [hy0,hy1,hy2]
 have HN:=hid (show w.heap.size = y0 ∧ y0 + 1 = y1 ∧ y1 + 1 = y2 from ⟨hy0,hy1,hy2⟩)
 have HX:=hid HBX.out.1
 have H0:=hid HBX.out.2.1
 have H1:=hid HBX.out.2.2.1
 have H2:=hid HBX.out.2.2.2
 clear hy0 hy1 hy2 HBX
 have HY:=hid (show y0 ≠ y2 ∧ y1 ≠ y2 ∧ w.heap.size ≤ y2 by have:=HN.out;omega)
 clear HN
 refine wp_region_inv [5,6,7,8,9,10,11,12,13,14,15,16,17,18] _ (fun i=>([[],[],[1],[0,2],[],[],[5],[6],[4,7],[],[],[10],[9,11],[3,8,12],[13]]:List (List Nat)).getD i []) (PlF (fun bb W=>Ext w W ∧ RowAt W y0 98 (nmL vs m av) ∧ RowAt W y1 75 ([.int .i64 3,.int .i64 n,.int .i64 a.var,.int .i64 a.id,.int .i64 b.var,.int .i64 b.id]) ∧ RowAt W y2 88 (if bb = true then [.int .i64 0,.bool (r0.getD (false,nilB)).1,.string (r0.getD (false,nilB)).2,.string (r1.getD nilB),.string ⟨#[]⟩,.bool (r2.getD (false,nilB)).1,.string (r2.getD (false,nilB)).2] else [.int .i64 0,.bool false,.string ⟨#[]⟩,.string ⟨#[]⟩,.string ⟨#[]⟩,.bool false,.string ⟨#[]⟩])) [some (.agg (nmL vs m av).toArray),some (.pointer (some ⟨y1,2,none⟩)),some (.agg #[.int .i64 a.var,.int .i64 a.id]),r0.map termV,some (.agg (nmL vs m av).toArray),some (.pointer (some ⟨y1,0,none⟩)),some (.pointer (some ⟨y1,1,none⟩)),some (.int .i64 n),r1.map strV,some (.agg (nmL vs m av).toArray),some (.pointer (some ⟨y1,4,none⟩)),some (.agg #[.int .i64 b.var,.int .i64 b.id]),r2.map termV,some (.agg #[.int .i64 0,.bool (r0.getD (false,nilB)).1,.string (r0.getD (false,nilB)).2,.string (r1.getD nilB),.string ⟨#[]⟩,.bool (r2.getD (false,nilB)).1,.string (r2.getD (false,nilB)).2])] 14) hmo (by kernel_rfl) (by kernel_rfl) (puts_self _ _) (PlF.start rfl (⟨HX.out.trans (Ext.drewN w1 1),H0.out.ext (Ext.drewN w1 1),H1.out.ext (Ext.drewN w1 1),by rw [if_neg (by decide)];exact H2.out.ext (Ext.drewN w1 1)⟩)) ?_ ?_
 ·refine ⟨?_,?_,?_,?_,?_,?_,?_,?_,?_,?_,?_,?_,?_,?_,?_,trivial⟩
  all_goals
   rintro S us wq hd hn hF K hK
   obtain ⟨u0,u1,u2,u3,u4,u5,u6,u7,u8,u9,u10,u11,u12,u13,rfl⟩:=len14 hF.len rfl
   have hI:=hF.inv
   have HK:=hid hK
   have HF:=hid hF
   have HN:=hid hn
   have HD:=hid hd
   clear hK hF hn hd
   simp only [puts,Act.put,qA,qB,qC]
  ·have hk:=HK.out _ wq (HF.out.put (i:=0) (v:=(.agg (nmL vs m av).toArray)) rfl (by decide) hI)
   simp only [puts,Act.put,qA,qB,qC] at hk
   rw [if_pos (show Region.wanted _ _ = true from rfl)]
   refine wp_load_mid _ _ rfl y0 0 rfl _ _ (hI.2.1.whole) Tryz.underlying98 rfl (by kernel_rfl) ?_
   exact hk
  ·have hk:=HK.out _ wq (HF.out.put (i:=1) (v:=.pointer (some ⟨y1,2,none⟩)) rfl (by decide) hI)
   simp only [puts,Act.put,qA,qB,qC] at hk
   go_simp
   exact hk
  ·obtain rfl:=HF.out.got (HD.out 1 (by decide)) (i:=1) rfl rfl
   have c:=hI.2.2.1.cell (i:=2) rfl
   have c2:=hI.2.2.1.cell (i:=3) rfl
   have hk:=HK.out _ wq (HF.out.put (i:=2) (v:=.agg #[.int .i64 a.var,.int .i64 a.id]) rfl (by decide) hI)
   simp only [puts,Act.put,qA,qB,qC] at hk
   go_simp
   exact hk
  ·obtain rfl:=HF.out.got (HD.out 0 (by decide)) (i:=0) rfl rfl
   obtain rfl:=HF.out.got (HD.out 2 (by decide)) (i:=2) rfl rfl
   go_simp
   refine (HC0.out wq hI.1).mono ?_
   rintro e w2 ⟨rfl,hx2⟩
   rcases hr:r0 with _ | x
   ·unfold outE unknE
    go_wp2_with fail
    exact ⟨rfl,HN0.out hr,hI.1.trans hx2⟩
   ·have hk:=HK.out _ w2 (HF.out.put (i:=3) (v:=termV x) (by rw [hr];rfl) (by decide) ⟨hI.1.trans hx2,hI.2.1.ext hx2,hI.2.2.1.ext hx2,hI.2.2.2.ext hx2⟩)
    simp only [puts,Act.put,qA,qB,qC] at hk
    unfold outE
    dsimp only
    go_simp
    exact hk
  ·have hk:=HK.out _ wq (HF.out.put (i:=4) (v:=(.agg (nmL vs m av).toArray)) rfl (by decide) hI)
   simp only [puts,Act.put,qA,qB,qC] at hk
   rw [if_pos (show Region.wanted _ _ = true from rfl)]
   refine wp_load_mid _ _ rfl y0 0 rfl _ _ (hI.2.1.whole) Tryz.underlying98 rfl (by kernel_rfl) ?_
   exact hk
  ·have hk:=HK.out _ wq (HF.out.put (i:=5) (v:=.pointer (some ⟨y1,0,none⟩)) rfl (by decide) hI)
   simp only [puts,Act.put,qA,qB,qC] at hk
   go_simp
   exact hk
  ·obtain rfl:=HF.out.got (HD.out 5 (by decide)) (i:=5) rfl rfl
   have hk:=HK.out _ wq (HF.out.put (i:=6) (v:=.pointer (some ⟨y1,1,none⟩)) rfl (by decide) hI)
   simp only [puts,Act.put,qA,qB,qC] at hk
   go_simp
   exact hk
  ·obtain rfl:=HF.out.got (HD.out 6 (by decide)) (i:=6) rfl rfl
   have c:=hI.2.2.1.cell (i:=1) rfl
   have hk:=HK.out _ wq (HF.out.put (i:=7) (v:=.int .i64 n) rfl (by decide) hI)
   simp only [puts,Act.put,qA,qB,qC] at hk
   go_simp
   exact hk
  ·obtain rfl:=HF.out.got (HD.out 4 (by decide)) (i:=4) rfl rfl
   obtain rfl:=HF.out.got (HD.out 7 (by decide)) (i:=7) rfl rfl
   go_simp
   refine (HC1.out wq hI.1).mono ?_
   rintro e w2 ⟨rfl,hx2⟩
   rcases hr:r1 with _ | x
   ·unfold outE unknE
    go_wp2_with fail
    exact ⟨rfl,HN1.out hr,hI.1.trans hx2⟩
   ·have hk:=HK.out _ w2 (HF.out.put (i:=8) (v:=strV x) (by rw [hr];rfl) (by decide) ⟨hI.1.trans hx2,hI.2.1.ext hx2,hI.2.2.1.ext hx2,hI.2.2.2.ext hx2⟩)
    simp only [puts,Act.put,qA,qB,qC] at hk
    unfold outE
    dsimp only
    go_simp
    exact hk
  ·have hk:=HK.out _ wq (HF.out.put (i:=9) (v:=(.agg (nmL vs m av).toArray)) rfl (by decide) hI)
   simp only [puts,Act.put,qA,qB,qC] at hk
   rw [if_pos (show Region.wanted _ _ = true from rfl)]
   refine wp_load_mid _ _ rfl y0 0 rfl _ _ (hI.2.1.whole) Tryz.underlying98 rfl (by kernel_rfl) ?_
   exact hk
  ·have hk:=HK.out _ wq (HF.out.put (i:=10) (v:=.pointer (some ⟨y1,4,none⟩)) rfl (by decide) hI)
   simp only [puts,Act.put,qA,qB,qC] at hk
   go_simp
   exact hk
  ·obtain rfl:=HF.out.got (HD.out 10 (by decide)) (i:=10) rfl rfl
   have c:=hI.2.2.1.cell (i:=4) rfl
   have c2:=hI.2.2.1.cell (i:=5) rfl
   have hk:=HK.out _ wq (HF.out.put (i:=11) (v:=.agg #[.int .i64 b.var,.int .i64 b.id]) rfl (by decide) hI)
   simp only [puts,Act.put,qA,qB,qC] at hk
   go_simp
   exact hk
  ·obtain rfl:=HF.out.got (HD.out 9 (by decide)) (i:=9) rfl rfl
   obtain rfl:=HF.out.got (HD.out 11 (by decide)) (i:=11) rfl rfl
   go_simp
   refine (HC2.out wq hI.1).mono ?_
   rintro e w2 ⟨rfl,hx2⟩
   rcases hr:r2 with _ | x
   ·unfold outE unknE
    go_wp2_with fail
    exact ⟨rfl,HN2.out hr,hI.1.trans hx2⟩
   ·have hk:=HK.out _ w2 (HF.out.put (i:=12) (v:=termV x) (by rw [hr];rfl) (by decide) ⟨hI.1.trans hx2,hI.2.1.ext hx2,hI.2.2.1.ext hx2,hI.2.2.2.ext hx2⟩)
    simp only [puts,Act.put,qA,qB,qC] at hk
    unfold outE
    dsimp only
    go_simp
    exact hk
  ·obtain ⟨x3,hx3,rfl⟩:=HF.out.map (HD.out 3 (by decide)) (i:=3) rfl rfl
   obtain ⟨x8,hx8,rfl⟩:=HF.out.map (HD.out 8 (by decide)) (i:=8) rfl rfl
   obtain ⟨x12,hx12,rfl⟩:=HF.out.map (HD.out 12 (by decide)) (i:=12) rfl rfl
   subst hx3 hx8 hx12
   unfold termV strV
   have hk:=HK.out _ wq (HF.out.put (i:=13) (v:=.agg #[.int .i64 0,.bool x3.1,.string x3.2,.string x8,.string ⟨#[]⟩,.bool x12.1,.string x12.2]) rfl (by decide) hI)
   simp only [puts,Act.put,qA,qB,qC] at hk
   go_simp
   exact hk
  ·obtain rfl:=HF.out.got (HD.out 13 (by decide)) (i:=13) rfl rfl
   rw [HN.out,if_neg (by decide)] at hI
   rw [if_pos (show Region.wanted _ _ = true from rfl)]
   refine wp_store_row _ _ _ rfl y2 ([.int .i64 0,.bool (r0.getD (false,nilB)).1,.string (r0.getD (false,nilB)).2,.string (r1.getD nilB),.string ⟨#[]⟩,.bool (r2.getD (false,nilB)).1,.string (r2.getD (false,nilB)).2]).toArray rfl rfl _ _ hI.2.2.2 (by kernel_rfl) rfl (all_oneCell_toArray (by simp [Value.oneCell'])) ?_
   have hk:=HK.out _ _ (HF.out.fin (Nat.le_refl _) ⟨show Ext w (wq.setRow y2 ([.int .i64 0,.bool (r0.getD (false,nilB)).1,.string (r0.getD (false,nilB)).2,.string (r1.getD nilB),.string ⟨#[]⟩,.bool (r2.getD (false,nilB)).1,.string (r2.getD (false,nilB)).2]).toArray) from below_setRow hI.1 HY.out.2.2 _,(setRow_other _ _ _ _ HY.out.1).trans hI.2.1,(setRow_other _ _ _ _ HY.out.2.1).trans hI.2.2.1,by rw [if_pos rfl];exact hI.2.2.2.setRow _⟩)
   simp only [puts,Act.put,qA,qB,qC] at hk
   exact hk
 ·rintro S us wq hS hF
  obtain ⟨u0,u1,u2,u3,u4,u5,u6,u7,u8,u9,u10,u11,u12,u13,rfl⟩:=len14 hF.len rfl
  obtain rfl:=hF.got (hS 0 (by decide)) (i:=0) rfl rfl
  obtain rfl:=hF.got (hS 1 (by decide)) (i:=1) rfl rfl
  obtain rfl:=hF.got (hS 2 (by decide)) (i:=2) rfl rfl
  obtain ⟨x3,hx3,rfl⟩:=hF.map (hS 3 (by decide)) (i:=3) rfl rfl
  obtain rfl:=hF.got (hS 4 (by decide)) (i:=4) rfl rfl
  obtain rfl:=hF.got (hS 5 (by decide)) (i:=5) rfl rfl
  obtain rfl:=hF.got (hS 6 (by decide)) (i:=6) rfl rfl
  obtain rfl:=hF.got (hS 7 (by decide)) (i:=7) rfl rfl
  obtain ⟨x8,hx8,rfl⟩:=hF.map (hS 8 (by decide)) (i:=8) rfl rfl
  obtain rfl:=hF.got (hS 9 (by decide)) (i:=9) rfl rfl
  obtain rfl:=hF.got (hS 10 (by decide)) (i:=10) rfl rfl
  obtain rfl:=hF.got (hS 11 (by decide)) (i:=11) rfl rfl
  obtain ⟨x12,hx12,rfl⟩:=hF.map (hS 12 (by decide)) (i:=12) rfl rfl
  obtain rfl:=hF.got (hS 13 (by decide)) (i:=13) rfl rfl
  have hI:=hF.inv
  rw [hS 14 (by decide)] at hI
  clear hF hS
  simp only [puts,Act.put,qA,qB,qC]
  subst hx3 hx8 hx12
  rw [if_pos rfl] at hI
  simp only [Option.getD_some] at hI ⊢
  have HR:=hid hI.2.2.2
  have HXX:=hid hI.1
  clear hI
  go_wp2_with fail
  exact bodyPost_ret (results_row0 rfl rfl HR.out Tryz.underlying88 rfl (by kernel_rfl)) rfl ⟨HX0.out _ _ _ rfl rfl rfl,HXX.out⟩
end

/- The ways of the kinds, and which one an atom's is. -/
section
open Go.RowKit Go.Shelf Go.Sort
attribute [local go_sem] Oper.semAt_some wide_fn wide_depth
def waysL:List Value:=[.int .i64 1,.func (.func 115) #[] #[],.func (.func 117) #[] #[],.int .i64 2,.func (.func 119) #[] #[],.func (.func 121) #[] #[],
 .int .i64 3,.func (.func 123) #[] #[],.func (.func 124) #[] #[],.int .i64 4,.func (.func 125) #[] #[],.func (.func 126) #[] #[]]
def waysV:Value:=.agg waysL.toArray
theorem ways_any (w:World):Calls Tryz.prog 88 #[] w fun e w'=>e = .returned waysV ∧ Ext w w':=by
 go_enter Tryz.func88,Tryz.ntmps88
 go_wp2_with fail
 exact bodyPost_ret (v:=waysV) (by simp [results,Tryz.results88,go_sem,waysV,waysL]) rfl ⟨rfl,Ext.alloc _ _⟩
theorem isWay_any (x k:Int) (f1 f2:FuncId) (y:Nat) (w:World) (hy:w.cell? ⟨y,0,none⟩ = some (.int .i64 k)) :
 Calls Tryz.prog 90 #[.agg #[.int .i64 x,.func (.func f1) #[] #[],.func (.func f2) #[] #[]],.pointer (some ⟨y,0,none⟩)] w fun e w'=>e = .returned (.bool (x == k)) ∧ Ext w w':=by
 have hx:=Ext.alloc w (.cells #[.int .i64 x,.func (.func f1) #[] #[],.func (.func f2) #[] #[]] 147)
 have hc:=ext_cell hx hy
 have HX:=hid hx
 clear hx hy
 go_enter Tryz.func90,Tryz.ntmps90
 go_wp2_with fail
 go_ret
 exact ⟨rfl,HX.out⟩
theorem idxWay_any (k:Nat) (hk:k < 4) (g y:Nat) (w:World) (hg:RowAt w g 148 waysL) (hy:w.cell? ⟨y,0,none⟩ = some (.int .i64 ((k:Int) + 1))) :
 Calls Tryz.prog 89 #[.slice (some ⟨g,0,none⟩) 4 4,.func (.func 90) #[] #[.pointer (some ⟨y,0,none⟩)]] w fun e w'=>e = .returned (.int .i64 k) ∧ Ext w w':=by
 have HG:=hid hg
 have HY:=hid hy
 have HK:=hid hk
 clear hg hy hk
 go_enter Tryz.func89,Tryz.ntmps89
 go_wp2_with fail
 go_loopg [8] k (fun g i wr=>∃ j:Nat,j ≤ k ∧ g = k - j ∧ i = .int .i64 j ∧ Ext w wr)
 case atStart=>exact ⟨0,Nat.zero_le _,rfl,rfl,Ext.refl _⟩
 case round =>
  obtain ⟨j,hj,hg,rfl,hx⟩:=hrel
  have Hg:=hid hg
  have HX:=hid hx
  have HG2:=hid (HG.out.ext hx)
  have HY2:=hid (ext_cell hx HY.out)
  have hj4:j = 0 ∨ j = 1 ∨ j = 2 ∨ j = 3:=by have:=HK.out;omega
  have HJ:=hid hj
  clear hg hx hj
  rcases hj4 with rfl | rfl | rfl | rfl
  ·
   have c0:=HG2.out.cell (i:=0 * 3) rfl
   have c1:=HG2.out.cell (i:=0 * 3 + 1) rfl
   have c2:=HG2.out.cell (i:=0 * 3 + 2) rfl
   obtain ⟨b,hb⟩:∃ b,((1:Int) == (k:Int) + 1) = b:=⟨_,rfl⟩
   have HC:=isWay_any 1 ((k:Int) + 1) 115 117 y wr HY2.out
   rw [hb] at HC
   replace HC:=hid HC
   have HB:=hid hb
   clear hb
   cases b
   case false =>
    have hne:¬ k = 0:=by have:=HB.out;simp at this;omega
    have HNE:=hid hne
    clear hne
    go_wp2_with fail
    refine HC.out.mono ?_
    rintro e w2 ⟨rfl,hx2⟩
    have HX2:=hid (HX.out.trans hx2)
    clear hx2 HC c0 c1 c2
    go_wp2_with fail
    go_roundg (k - (0 + 1))
    case measure=>have:=Hg.out;have:=HJ.out;have:=HNE.out;omega
    case rel=>exact ⟨0 + 1,by have:=HJ.out;have:=HNE.out;omega,rfl,by first | rfl | go_num,HX2.out⟩
   case true =>
    have he:k = 0:=by have:=HB.out;simp at this;omega
    subst he
    go_wp2_with fail
    refine HC.out.mono ?_
    rintro e w2 ⟨rfl,hx2⟩
    have HX2:=hid (HX.out.trans hx2)
    clear hx2 HC c0 c1 c2
    go_wp2_with fail
    go_ret
    exact ⟨rfl,HX2.out⟩
  ·
   have c0:=HG2.out.cell (i:=1 * 3) rfl
   have c1:=HG2.out.cell (i:=1 * 3 + 1) rfl
   have c2:=HG2.out.cell (i:=1 * 3 + 2) rfl
   obtain ⟨b,hb⟩:∃ b,((2:Int) == (k:Int) + 1) = b:=⟨_,rfl⟩
   have HC:=isWay_any 2 ((k:Int) + 1) 119 121 y wr HY2.out
   rw [hb] at HC
   replace HC:=hid HC
   have HB:=hid hb
   clear hb
   cases b
   case false =>
    have hne:¬ k = 1:=by have:=HB.out;simp at this;omega
    have HNE:=hid hne
    clear hne
    go_wp2_with fail
    refine HC.out.mono ?_
    rintro e w2 ⟨rfl,hx2⟩
    have HX2:=hid (HX.out.trans hx2)
    clear hx2 HC c0 c1 c2
    go_wp2_with fail
    go_roundg (k - (1 + 1))
    case measure=>have:=Hg.out;have:=HJ.out;have:=HNE.out;omega
    case rel=>exact ⟨1 + 1,by have:=HJ.out;have:=HNE.out;omega,rfl,by first | rfl | go_num,HX2.out⟩
   case true =>
    have he:k = 1:=by have:=HB.out;simp at this;omega
    subst he
    go_wp2_with fail
    refine HC.out.mono ?_
    rintro e w2 ⟨rfl,hx2⟩
    have HX2:=hid (HX.out.trans hx2)
    clear hx2 HC c0 c1 c2
    go_wp2_with fail
    go_ret
    exact ⟨rfl,HX2.out⟩
  ·
   have c0:=HG2.out.cell (i:=2 * 3) rfl
   have c1:=HG2.out.cell (i:=2 * 3 + 1) rfl
   have c2:=HG2.out.cell (i:=2 * 3 + 2) rfl
   obtain ⟨b,hb⟩:∃ b,((3:Int) == (k:Int) + 1) = b:=⟨_,rfl⟩
   have HC:=isWay_any 3 ((k:Int) + 1) 123 124 y wr HY2.out
   rw [hb] at HC
   replace HC:=hid HC
   have HB:=hid hb
   clear hb
   cases b
   case false =>
    have hne:¬ k = 2:=by have:=HB.out;simp at this;omega
    have HNE:=hid hne
    clear hne
    go_wp2_with fail
    refine HC.out.mono ?_
    rintro e w2 ⟨rfl,hx2⟩
    have HX2:=hid (HX.out.trans hx2)
    clear hx2 HC c0 c1 c2
    go_wp2_with fail
    go_roundg (k - (2 + 1))
    case measure=>have:=Hg.out;have:=HJ.out;have:=HNE.out;omega
    case rel=>exact ⟨2 + 1,by have:=HJ.out;have:=HNE.out;omega,rfl,by first | rfl | go_num,HX2.out⟩
   case true =>
    have he:k = 2:=by have:=HB.out;simp at this;omega
    subst he
    go_wp2_with fail
    refine HC.out.mono ?_
    rintro e w2 ⟨rfl,hx2⟩
    have HX2:=hid (HX.out.trans hx2)
    clear hx2 HC c0 c1 c2
    go_wp2_with fail
    go_ret
    exact ⟨rfl,HX2.out⟩
  ·
   have c0:=HG2.out.cell (i:=3 * 3) rfl
   have c1:=HG2.out.cell (i:=3 * 3 + 1) rfl
   have c2:=HG2.out.cell (i:=3 * 3 + 2) rfl
   obtain ⟨b,hb⟩:∃ b,((4:Int) == (k:Int) + 1) = b:=⟨_,rfl⟩
   have HC:=isWay_any 4 ((k:Int) + 1) 125 126 y wr HY2.out
   rw [hb] at HC
   replace HC:=hid HC
   have HB:=hid hb
   clear hb
   cases b
   case false =>
    have hne:¬ k = 3:=by have:=HB.out;simp at this;omega
    have HNE:=hid hne
    clear hne
    go_wp2_with fail
    refine HC.out.mono ?_
    rintro e w2 ⟨rfl,hx2⟩
    have HX2:=hid (HX.out.trans hx2)
    clear hx2 HC c0 c1 c2
    go_wp2_with fail
    go_roundg (k - (3 + 1))
    case measure=>have:=Hg.out;have:=HJ.out;have:=HNE.out;omega
    case rel=>exact ⟨3 + 1,by have:=HJ.out;have:=HNE.out;omega,rfl,by first | rfl | go_num,HX2.out⟩
   case true =>
    have he:k = 3:=by have:=HB.out;simp at this;omega
    subst he
    go_wp2_with fail
    refine HC.out.mono ?_
    rintro e w2 ⟨rfl,hx2⟩
    have HX2:=hid (HX.out.trans hx2)
    clear hx2 HC c0 c1 c2
    go_wp2_with fail
    go_ret
    exact ⟨rfl,HX2.out⟩
end

end Go.Proofs.YtkmbnghghbfkdaaGreat
