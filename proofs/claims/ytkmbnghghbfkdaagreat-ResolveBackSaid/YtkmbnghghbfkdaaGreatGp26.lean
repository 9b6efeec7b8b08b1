/- How an atom comes to a relation, or back: there, kind 3. -/
import Derived.Test.YtkmbnghghbfkdaaGreatGp24
set_option linter.unusedSimpArgs false
set_option linter.unusedVariables false
set_option maxHeartbeats 2000000
set_option maxRecDepth 100000
namespace Go.Proofs.YtkmbnghghbfkdaaGreat
open Go.Lib (hid)

section
open Go.RowKit Go.Shelf Go.Sort
attribute [local go_sem] Oper.semAt_some wide_fn wide_depth
set_option maxHeartbeats 4000000 in
theorem way5_any (vs:Nat → Value × Value) (m:Nat) (av:Value) (D:Dic) (V:List ByteArray) (w:World) (hV:DicV w vs D) (hS:DicS D) (h:DicOK D) (hm:VarsAt w m V) (hd:Distinct V) (fk:Bool) (fn name value:ByteArray) (tk:Bool) (tn:ByteArray)
 (hf:(⟨3,fk,fn,name,value,tk,tn⟩:Atm).Fits) (hin:(⟨3,fk,fn,name,value,tk,tn⟩:Atm).In V) :
 Calls Tryz.prog 123 #[nmV vs m av,atV ⟨3,fk,fn,name,value,tk,tn⟩] w fun e w'=>e = outE ((bndF D V ⟨3,fk,fn,name,value,tk,tn⟩).map bnd0) bndV ∧ Ext w w':=by
 have hmo:Tryz.prog.follows .mixedOrders = true:=by kernel_rfl
 obtain ⟨X,hX⟩:∃ X,outE ((bndF D V ⟨3,fk,fn,name,value,tk,tn⟩).map bnd0) bndV = X:=⟨_,rfl⟩
 rw [hX]
 obtain ⟨hY,hN0,hN1,hN2⟩:=way_e3 hX
 obtain ⟨r0,hr0⟩:∃ r,idO D 3 name = r:=⟨_,rfl⟩
 have hC0:=fun w' (hx:Ext w w')=>nid_any vs m av D w' (hV.ext hx) hS h 3 name (by have:=hf.name;dsimp only at this;omega)
 obtain ⟨r1,hr1⟩:∃ r,idO D 4 value = r:=⟨_,rfl⟩
 have hC1:=fun w' (hx:Ext w w')=>nid_any vs m av D w' (hV.ext hx) hS h 4 value (by have:=hf.value;dsimp only at this;omega)
 obtain ⟨r2,hr2⟩:∃ r,argF D V fk fn = r:=⟨_,rfl⟩
 have hC2:=fun w' (hx:Ext w w')=>narg_any vs m av D V w' (hV.ext hx) hS h (hm.ext hx) hd fk fn (by have:=hf.fn;dsimp only at this;omega) hin.1
 rw [hr0] at hY hN0 hC0
 rw [hr1] at hY hN1 hC1
 rw [hr2] at hY hN2 hC2
 have HX0:=hid hY
 have HN0:=hid hN0
 have HC0:=hid hC0
 have HN1:=hid hN1
 have HC1:=hid hC1
 have HN2:=hid hN2
 have HC2:=hid hC2
 clear hX hY hN0 hC0 hr0 hN1 hC1 hr1 hN2 hC2 hr2 hV hS h hm hd hf hin
 unfold nmV atV at *
 dsimp only at *
 have hbx:=boxes3 w (nmL vs m av) 98 ([.int .i64 3,.bool fk,.string fn,.string name,.string value,.bool tk,.string tn]) 88 ([.int .i64 0,.int .i64 0,.int .i64 0,.int .i64 0,.int .i64 0,.int .i64 0]) 75
 have HBX:=hid hbx
 clear hbx
 go_enter Tryz.func123,Tryz.ntmps123
 go_upto_region 1 with fail
 generalize ((w.alloc (.cells (nmL vs m av).toArray 98)).alloc (.cells ([.int .i64 3,.bool fk,.string fn,.string name,.string value,.bool tk,.string tn]).toArray 88)).alloc (.cells ([.int .i64 0,.int .i64 0,.int .i64 0,.int .i64 0,.int .i64 0,.int .i64 0]).toArray 75) = w1 at *
 obtain ⟨y0,hy0⟩:∃ x,w.heap.size = x:=⟨_,rfl⟩
 obtain ⟨y1,hy1⟩:∃ x,y0 + 1 = x:=⟨_,rfl⟩
 obtain ⟨y2,hy2⟩:∃ x,y1 + 1 = x:=⟨_,rfl⟩
 rw [hy0,hy1,hy2] at HBX
 simp only [hy0,hy1,hy2]
 have HN:=hid (show w.heap.size = y0 ∧ y0 + 1 = y1 ∧ y1 + 1 = y2 from ⟨hy0,hy1,hy2⟩)
 have HX:=hid HBX.out.1
 have H0:=hid HBX.out.2.1
 have H1:=hid HBX.out.2.2.1
 have H2:=hid HBX.out.2.2.2
 clear hy0 hy1 hy2 HBX
 have HY:=hid (show y0 ≠ y2 ∧ y1 ≠ y2 ∧ w.heap.size ≤ y2 by have:=HN.out;omega)
 clear HN
 refine wp_region_inv [7,8,9,10,11,12,13,14,5,6] _ (fun i=>([[],[],[1],[0,2],[],[],[5],[4,6],[3],[7]]:List (List Nat)).getD i []) (PlF (fun bb W=>Ext w W ∧ RowAt W y0 98 (nmL vs m av) ∧ RowAt W y1 88 ([.int .i64 3,.bool fk,.string fn,.string name,.string value,.bool tk,.string tn]) ∧ RowAt W y2 75 [.int .i64 0,.int .i64 0,.int .i64 0,.int .i64 0,.int .i64 0,.int .i64 0]) [some (.agg (nmL vs m av).toArray),some (.pointer (some ⟨y1,3,none⟩)),some (.string name),r0.map intV,some (.agg (nmL vs m av).toArray),some (.pointer (some ⟨y1,4,none⟩)),some (.string value),r1.map intV,r0.map intV,r1.map intV] 10) hmo (by kernel_rfl) (by kernel_rfl) (puts_self _ _) (PlF.start rfl (⟨HX.out.trans (Ext.drewN w1 1),H0.out.ext (Ext.drewN w1 1),H1.out.ext (Ext.drewN w1 1),H2.out.ext (Ext.drewN w1 1)⟩)) ?_ ?_
 ·refine ⟨?_,?_,?_,?_,?_,?_,?_,?_,?_,?_,trivial⟩
  all_goals
   rintro S us wq hd hn hF K hK
   obtain ⟨u0,u1,u2,u3,u4,u5,u6,u7,u8,u9,rfl⟩:=len10 hF.len rfl
   have hI:=hF.inv
   have HK:=hid hK
   have HF:=hid hF
   have HN:=hid hn
   have HD:=hid hd
   clear hK hF hn hd
   simp only [puts,Act.put,qA,qB,qC]
  ·have hk:=HK.out _ wq (HF.out.put (i:=0) (v:=(.agg (nmL vs m av).toArray)) rfl (by decide) hI)
   simp only [puts,Act.put,qA,qB,qC] at hk
   rw [if_pos (show Region.wanted _ _ = true from rfl)]
   refine wp_load_mid _ _ rfl y0 0 rfl _ _ (hI.2.1.whole) Tryz.underlying98 rfl (by kernel_rfl) ?_
   exact hk
  ·have hk:=HK.out _ wq (HF.out.put (i:=1) (v:=.pointer (some ⟨y1,3,none⟩)) rfl (by decide) hI)
   simp only [puts,Act.put,qA,qB,qC] at hk
   go_simp
   exact hk
  ·obtain rfl:=HF.out.got (HD.out 1 (by decide)) (i:=1) rfl rfl
   have c:=hI.2.2.1.cell (i:=3) rfl
   have hk:=HK.out _ wq (HF.out.put (i:=2) (v:=.string name) rfl (by decide) hI)
   simp only [puts,Act.put,qA,qB,qC] at hk
   go_simp
   exact hk
  ·obtain rfl:=HF.out.got (HD.out 0 (by decide)) (i:=0) rfl rfl
   obtain rfl:=HF.out.got (HD.out 2 (by decide)) (i:=2) rfl rfl
   go_simp
   refine (HC0.out wq hI.1).mono ?_
   rintro e w2 ⟨rfl,hx2⟩
   rcases hr:r0 with _ | x
   ·unfold outE unknE
    go_wp2_with fail
    exact ⟨rfl,HN0.out hr,hI.1.trans hx2⟩
   ·have hk:=HK.out _ w2 (HF.out.put (i:=3) (v:=intV x) (by rw [hr];rfl) (by decide) ⟨hI.1.trans hx2,hI.2.1.ext hx2,hI.2.2.1.ext hx2,hI.2.2.2.ext hx2⟩)
    simp only [puts,Act.put,qA,qB,qC] at hk
    unfold outE
    dsimp only
    go_simp
    exact hk
  ·have hk:=HK.out _ wq (HF.out.put (i:=4) (v:=(.agg (nmL vs m av).toArray)) rfl (by decide) hI)
   simp only [puts,Act.put,qA,qB,qC] at hk
   rw [if_pos (show Region.wanted _ _ = true from rfl)]
   refine wp_load_mid _ _ rfl y0 0 rfl _ _ (hI.2.1.whole) Tryz.underlying98 rfl (by kernel_rfl) ?_
   exact hk
  ·have hk:=HK.out _ wq (HF.out.put (i:=5) (v:=.pointer (some ⟨y1,4,none⟩)) rfl (by decide) hI)
   simp only [puts,Act.put,qA,qB,qC] at hk
   go_simp
   exact hk
  ·obtain rfl:=HF.out.got (HD.out 5 (by decide)) (i:=5) rfl rfl
   have c:=hI.2.2.1.cell (i:=4) rfl
   have hk:=HK.out _ wq (HF.out.put (i:=6) (v:=.string value) rfl (by decide) hI)
   simp only [puts,Act.put,qA,qB,qC] at hk
   go_simp
   exact hk
  ·obtain rfl:=HF.out.got (HD.out 4 (by decide)) (i:=4) rfl rfl
   obtain rfl:=HF.out.got (HD.out 6 (by decide)) (i:=6) rfl rfl
   go_simp
   refine (HC1.out wq hI.1).mono ?_
   rintro e w2 ⟨rfl,hx2⟩
   rcases hr:r1 with _ | x
   ·unfold outE unknE
    go_wp2_with fail
    exact ⟨rfl,HN1.out hr,hI.1.trans hx2⟩
   ·have hk:=HK.out _ w2 (HF.out.put (i:=7) (v:=intV x) (by rw [hr];rfl) (by decide) ⟨hI.1.trans hx2,hI.2.1.ext hx2,hI.2.2.1.ext hx2,hI.2.2.2.ext hx2⟩)
    simp only [puts,Act.put,qA,qB,qC] at hk
    unfold outE
    dsimp only
    go_simp
    exact hk
  ·obtain ⟨x3,hx3,rfl⟩:=HF.out.map (HD.out 3 (by decide)) (i:=3) rfl rfl
   subst hx3
   unfold intV
   have hk:=HK.out _ wq (HF.out.put (i:=8) (v:=.int .i64 x3) rfl (by decide) hI)
   simp only [puts,Act.put,qA,qB,qC] at hk
   go_simp
   exact hk
  ·obtain ⟨x7,hx7,rfl⟩:=HF.out.map (HD.out 7 (by decide)) (i:=7) rfl rfl
   subst hx7
   unfold intV
   have hk:=HK.out _ wq (HF.out.put (i:=9) (v:=.int .i64 x7) rfl (by decide) hI)
   simp only [puts,Act.put,qA,qB,qC] at hk
   go_simp
   exact hk
 ·rintro S us wq hS hF
  obtain ⟨u0,u1,u2,u3,u4,u5,u6,u7,u8,u9,rfl⟩:=len10 hF.len rfl
  obtain rfl:=hF.got (hS 0 (by decide)) (i:=0) rfl rfl
  obtain rfl:=hF.got (hS 1 (by decide)) (i:=1) rfl rfl
  obtain rfl:=hF.got (hS 2 (by decide)) (i:=2) rfl rfl
  obtain ⟨x3,hx3,rfl⟩:=hF.map (hS 3 (by decide)) (i:=3) rfl rfl
  obtain rfl:=hF.got (hS 4 (by decide)) (i:=4) rfl rfl
  obtain rfl:=hF.got (hS 5 (by decide)) (i:=5) rfl rfl
  obtain rfl:=hF.got (hS 6 (by decide)) (i:=6) rfl rfl
  obtain ⟨x7,hx7,rfl⟩:=hF.map (hS 7 (by decide)) (i:=7) rfl rfl
  obtain ⟨x8,hx8,rfl⟩:=hF.map (hS 8 (by decide)) (i:=8) rfl rfl
  obtain ⟨x9,hx9,rfl⟩:=hF.map (hS 9 (by decide)) (i:=9) rfl rfl
  have hI:=hF.inv
  clear hF hS
  simp only [puts,Act.put,qA,qB,qC]
  obtain rfl:x8 = x3:=Option.some.inj (hx8.symm.trans hx3)
  obtain rfl:x9 = x7:=Option.some.inj (hx9.symm.trans hx7)
  subst hx3 hx7
  unfold intV
  have HX2:=hid hI.1
  have H0:=hid hI.2.1
  have H1:=hid hI.2.2.1
  have H2:=hid hI.2.2.2
  clear hI HX
  have k1:=H1.out.cell (i:=1) rfl
  have k2:=H1.out.cell (i:=2) rfl
  go_upto_region 2 with fail
  apply wp_region_lit
  iterate 4 (refine wpList_plain rfl fun Y y'=>?_;go_simp;refine y' _ _ ?_;clear y' Y)
  refine plain_load rfl _ _ rfl y0 rfl _ _ (H0.out) Tryz.underlying98 rfl (by kernel_rfl) ?_
  go_simp
  iterate 2 (refine wpList_plain rfl fun Y y'=>?_;go_simp;refine y' _ _ ?_;clear y' Y)
  refine wpList_plain rfl fun K1 hK1=>?_
  go_simp
  refine (HC2.out wq HX2.out).mono ?_
  rintro e w2 ⟨rfl,hxw2⟩
  rcases hrx:r2 with _ | x
  ·unfold outE unknE
   go_wp2_with fail
   exact ⟨rfl,HN2.out hrx,HX2.out.trans hxw2⟩
  unfold outE
  dsimp only
  go_simp
  refine hK1 _ _ ?_
  clear hK1 K1
  have HXw2:=hid (HX2.out.trans hxw2)
  have HB2:=hid (H2.out.ext hxw2)
  clear hxw2 HX2 H0 H1 H2 k1 k2
  obtain ⟨x1,x2⟩:=x
  unfold argV
  dsimp only
  (refine wpList_plain rfl fun Y y'=>?_;go_simp;refine y' _ _ ?_;clear y' Y)
  refine plain_store rfl _ _ _ rfl y2 ([.int .i64 0,.int .i64 x8,.int .i64 (-1),.int .i64 x9,.int .i64 x1,.int .i64 x2]) rfl rfl (HB2.out) (by kernel_rfl) rfl ((by simp [Value.oneCell'])) ?_
  have HRR:=hid ((HB2.out).setRow ([.int .i64 0,.int .i64 x8,.int .i64 (-1),.int .i64 x9,.int .i64 x1,.int .i64 x2]))
  have HXX:=hid (show Ext w ((w2).setRow y2 ([.int .i64 0,.int .i64 x8,.int .i64 (-1),.int .i64 x9,.int .i64 x1,.int .i64 x2]).toArray) from below_setRow (HXw2.out) (HY.out.2.2) _)
  go_simp
  apply wpList_nil
  go_wp2_with fail
  exact bodyPost_ret (results_row0 rfl rfl HRR.out Tryz.underlying75 rfl (by kernel_rfl)) rfl (⟨HX0.out _ _ ⟨x1,x2⟩ rfl rfl hrx,HXX.out⟩)
end

/- How an atom comes to a relation, or back: back, kind 2. -/
section
open Go.RowKit Go.Shelf Go.Sort
attribute [local go_sem] Oper.semAt_some wide_fn wide_depth
set_option maxHeartbeats 4000000 in
theorem way6_any (vs:Nat → Value × Value) (m:Nat) (a0:Option Addr) (c:Nat) (D:Dic) (V:List ByteArray) (w:World) (hV:DicV w vs D) (hS:DicS D) (h:DicOK D) (hA:Strs w (.slice a0 V.length c) V) (hl:V.length ≤ 1000000) (n:Int) (a b:Arg) :
 Calls Tryz.prog 124 #[nmV vs m (.slice a0 V.length c),bndV ⟨2,n,a,b⟩] w fun e w'=>e = outE ((atmF D V ⟨2,n,a,b⟩).map atm0) atV ∧ Ext w w':=by
 have hmo:Tryz.prog.follows .mixedOrders = true:=by kernel_rfl
 obtain ⟨X,hX⟩:∃ X,outE ((atmF D V ⟨2,n,a,b⟩).map atm0) atV = X:=⟨_,rfl⟩
 rw [hX]
 obtain ⟨hY,hN0,hN1,hN2⟩:=back_e2 hX
 obtain ⟨r0,hr0⟩:∃ r,termF D V b = r:=⟨_,rfl⟩
 have hC0:=fun w' (hx:Ext w w')=>nterm_any vs m a0 c D V w' (hV.ext hx) hS h (Strs.ext hA hx) hl b
 obtain ⟨r1,hr1⟩:∃ r,nameO D 3 n = r:=⟨_,rfl⟩
 have hC1:=fun w' (hx:Ext w w')=>nname_any vs m (.slice a0 V.length c) D w' (hV.ext hx) hS h 3 (by omega) n
 obtain ⟨r2,hr2⟩:∃ r,nameO D 4 a.id = r:=⟨_,rfl⟩
 have hC2:=fun w' (hx:Ext w w')=>nname_any vs m (.slice a0 V.length c) D w' (hV.ext hx) hS h 4 (by omega) a.id
 rw [hr0] at hY hN0 hC0
 rw [hr1] at hY hN1 hC1
 rw [hr2] at hY hN2 hC2
 have HX0:=hid hY
 have HN0:=hid hN0
 have HC0:=hid hC0
 have HN1:=hid hN1
 have HC1:=hid hC1
 have HN2:=hid hN2
 have HC2:=hid hC2
 clear hX hY hN0 hC0 hr0 hN1 hC1 hr1 hN2 hC2 hr2 hV hS h hA hl
 unfold nmV bndV bndCells argV at *
 try dsimp only at *
 generalize Value.slice a0 V.length c = av at *
 have hbx:=boxes3 w (nmL vs m av) 98 ([.int .i64 2,.int .i64 n,.int .i64 a.var,.int .i64 a.id,.int .i64 b.var,.int .i64 b.id]) 75 ([.int .i64 0,.bool false,.string ⟨#[]⟩,.string ⟨#[]⟩,.string ⟨#[]⟩,.bool false,.string ⟨#[]⟩]) 88
 have HBX:=hid hbx
 clear hbx
 go_enter Tryz.func124,Tryz.ntmps124
 go_upto_region 1 with fail
 generalize ((w.alloc (.cells (nmL vs m av).toArray 98)).alloc (.cells ([.int .i64 2,.int .i64 n,.int .i64 a.var,.int .i64 a.id,.int .i64 b.var,.int .i64 b.id]).toArray 75)).alloc (.cells ([.int .i64 0,.bool false,.string ⟨#[]⟩,.string ⟨#[]⟩,.string ⟨#[]⟩,.bool false,.string ⟨#[]⟩]).toArray 88) = w1 at *
 obtain ⟨y0,hy0⟩:∃ x,w.heap.size = x:=⟨_,rfl⟩
 obtain ⟨y1,hy1⟩:∃ x,y0 + 1 = x:=⟨_,rfl⟩
 obtain ⟨y2,hy2⟩:∃ x,y1 + 1 = x:=⟨_,rfl⟩
 rw [hy0,hy1,hy2] at HBX
 simp only [hy0,hy1,hy2]
 have HN:=hid (show w.heap.size = y0 ∧ y0 + 1 = y1 ∧ y1 + 1 = y2 from ⟨hy0,hy1,hy2⟩)
 have HX:=hid HBX.out.1
 have H0:=hid HBX.out.2.1
 have H1:=hid HBX.out.2.2.1
 have H2:=hid HBX.out.2.2.2
 clear hy0 hy1 hy2 HBX
 have HY:=hid (show y0 ≠ y2 ∧ y1 ≠ y2 ∧ w.heap.size ≤ y2 by have:=HN.out;omega)
 clear HN
 refine wp_region_inv [5,6,7,8,9,10,11,12,13,14,15,16,17,18,19] _ (fun i=>([[],[],[1],[0,2],[],[],[5],[6],[4,7],[],[],[10],[11],[9,12],[3,8,13],[14]]:List (List Nat)).getD i []) (PlF (fun bb W=>Ext w W ∧ RowAt W y0 98 (nmL vs m av) ∧ RowAt W y1 75 ([.int .i64 2,.int .i64 n,.int .i64 a.var,.int .i64 a.id,.int .i64 b.var,.int .i64 b.id]) ∧ RowAt W y2 88 (if bb = true then [.int .i64 0,.bool (r0.getD (false,nilB)).1,.string (r0.getD (false,nilB)).2,.string (r1.getD nilB),.string (r2.getD nilB),.bool false,.string ⟨#[]⟩] else [.int .i64 0,.bool false,.string ⟨#[]⟩,.string ⟨#[]⟩,.string ⟨#[]⟩,.bool false,.string ⟨#[]⟩])) [some (.agg (nmL vs m av).toArray),some (.pointer (some ⟨y1,4,none⟩)),some (.agg #[.int .i64 b.var,.int .i64 b.id]),r0.map termV,some (.agg (nmL vs m av).toArray),some (.pointer (some ⟨y1,0,none⟩)),some (.pointer (some ⟨y1,1,none⟩)),some (.int .i64 n),r1.map strV,some (.agg (nmL vs m av).toArray),some (.pointer (some ⟨y1,2,none⟩)),some (.pointer (some ⟨y1,3,none⟩)),some (.int .i64 a.id),r2.map strV,some (.agg #[.int .i64 0,.bool (r0.getD (false,nilB)).1,.string (r0.getD (false,nilB)).2,.string (r1.getD nilB),.string (r2.getD nilB),.bool false,.string ⟨#[]⟩])] 15) hmo (by kernel_rfl) (by kernel_rfl) (puts_self _ _) (PlF.start rfl (⟨HX.out.trans (Ext.drewN w1 1),H0.out.ext (Ext.drewN w1 1),H1.out.ext (Ext.drewN w1 1),by rw [if_neg (by decide)];exact H2.out.ext (Ext.drewN w1 1)⟩)) ?_ ?_
 ·refine ⟨?_,?_,?_,?_,?_,?_,?_,?_,?_,?_,?_,?_,?_,?_,?_,?_,trivial⟩
  all_goals
   rintro S us wq hd hn hF K hK
   obtain ⟨u0,u1,u2,u3,u4,u5,u6,u7,u8,u9,u10,u11,u12,u13,u14,rfl⟩:=len15 hF.len rfl
   have hI:=hF.inv
   have HK:=hid hK
   have HF:=hid hF
   have HN:=hid hn
   have HD:=hid hd
   clear hK hF hn hd
   simp only [puts,Act.put,qA,qB,qC]
  ·have hk:=HK.out _ wq (HF.out.put (i:=0) (v:=(.agg (nmL vs m av).toArray)) rfl (by decide) hI)
   simp only [puts,Act.put,qA,qB,qC] at hk
   rw [if_pos (show Region.wanted _ _ = true from rfl)]
   refine wp_load_mid _ _ rfl y0 0 rfl _ _ (hI.2.1.whole) Tryz.underlying98 rfl (by kernel_rfl) ?_
   exact hk
  ·have hk:=HK.out _ wq (HF.out.put (i:=1) (v:=.pointer (some ⟨y1,4,none⟩)) rfl (by decide) hI)
   simp only [puts,Act.put,qA,qB,qC] at hk
   go_simp
   exact hk
  ·obtain rfl:=HF.out.got (HD.out 1 (by decide)) (i:=1) rfl rfl
   have c:=hI.2.2.1.cell (i:=4) rfl
   have c2:=hI.2.2.1.cell (i:=5) rfl
   have hk:=HK.out _ wq (HF.out.put (i:=2) (v:=.agg #[.int .i64 b.var,.int .i64 b.id]) rfl (by decide) hI)
   simp only [puts,Act.put,qA,qB,qC] at hk
   go_simp
   exact hk
  ·obtain rfl:=HF.out.got (HD.out 0 (by decide)) (i:=0) rfl rfl
   obtain rfl:=HF.out.got (HD.out 2 (by decide)) (i:=2) rfl rfl
   go_simp
   refine (HC0.out wq hI.1).mono ?_
   rintro e w2 ⟨rfl,hx2⟩
   rcases hr:r0 with _ | x
   ·unfold outE unknE
    go_wp2_with fail
    exact ⟨rfl,HN0.out hr,hI.1.trans hx2⟩
   ·have hk:=HK.out _ w2 (HF.out.put (i:=3) (v:=termV x) (by rw [hr];rfl) (by decide) ⟨hI.1.trans hx2,hI.2.1.ext hx2,hI.2.2.1.ext hx2,hI.2.2.2.ext hx2⟩)
    simp only [puts,Act.put,qA,qB,qC] at hk
    unfold outE
    dsimp only
    go_simp
    exact hk
  ·have hk:=HK.out _ wq (HF.out.put (i:=4) (v:=(.agg (nmL vs m av).toArray)) rfl (by decide) hI)
   simp only [puts,Act.put,qA,qB,qC] at hk
   rw [if_pos (show Region.wanted _ _ = true from rfl)]
   refine wp_load_mid _ _ rfl y0 0 rfl _ _ (hI.2.1.whole) Tryz.underlying98 rfl (by kernel_rfl) ?_
   exact hk
  ·have hk:=HK.out _ wq (HF.out.put (i:=5) (v:=.pointer (some ⟨y1,0,none⟩)) rfl (by decide) hI)
   simp only [puts,Act.put,qA,qB,qC] at hk
   go_simp
   exact hk
  ·obtain rfl:=HF.out.got (HD.out 5 (by decide)) (i:=5) rfl rfl
   have hk:=HK.out _ wq (HF.out.put (i:=6) (v:=.pointer (some ⟨y1,1,none⟩)) rfl (by decide) hI)
   simp only [puts,Act.put,qA,qB,qC] at hk
   go_simp
   exact hk
  ·obtain rfl:=HF.out.got (HD.out 6 (by decide)) (i:=6) rfl rfl
   have c:=hI.2.2.1.cell (i:=1) rfl
   have hk:=HK.out _ wq (HF.out.put (i:=7) (v:=.int .i64 n) rfl (by decide) hI)
   simp only [puts,Act.put,qA,qB,qC] at hk
   go_simp
   exact hk
  ·obtain rfl:=HF.out.got (HD.out 4 (by decide)) (i:=4) rfl rfl
   obtain rfl:=HF.out.got (HD.out 7 (by decide)) (i:=7) rfl rfl
   go_simp
   refine (HC1.out wq hI.1).mono ?_
   rintro e w2 ⟨rfl,hx2⟩
   rcases hr:r1 with _ | x
   ·unfold outE unknE
    go_wp2_with fail
    exact ⟨rfl,HN1.out hr,hI.1.trans hx2⟩
   ·have hk:=HK.out _ w2 (HF.out.put (i:=8) (v:=strV x) (by rw [hr];rfl) (by decide) ⟨hI.1.trans hx2,hI.2.1.ext hx2,hI.2.2.1.ext hx2,hI.2.2.2.ext hx2⟩)
    simp only [puts,Act.put,qA,qB,qC] at hk
    unfold outE
    dsimp only
    go_simp
    exact hk
  ·have hk:=HK.out _ wq (HF.out.put (i:=9) (v:=(.agg (nmL vs m av).toArray)) rfl (by decide) hI)
   simp only [puts,Act.put,qA,qB,qC] at hk
   rw [if_pos (show Region.wanted _ _ = true from rfl)]
   refine wp_load_mid _ _ rfl y0 0 rfl _ _ (hI.2.1.whole) Tryz.underlying98 rfl (by kernel_rfl) ?_
   exact hk
  ·have hk:=HK.out _ wq (HF.out.put (i:=10) (v:=.pointer (some ⟨y1,2,none⟩)) rfl (by decide) hI)
   simp only [puts,Act.put,qA,qB,qC] at hk
   go_simp
   exact hk
  ·obtain rfl:=HF.out.got (HD.out 10 (by decide)) (i:=10) rfl rfl
   have hk:=HK.out _ wq (HF.out.put (i:=11) (v:=.pointer (some ⟨y1,3,none⟩)) rfl (by decide) hI)
   simp only [puts,Act.put,qA,qB,qC] at hk
   go_simp
   exact hk
  ·obtain rfl:=HF.out.got (HD.out 11 (by decide)) (i:=11) rfl rfl
   have c:=hI.2.2.1.cell (i:=3) rfl
   have hk:=HK.out _ wq (HF.out.put (i:=12) (v:=.int .i64 a.id) rfl (by decide) hI)
   simp only [puts,Act.put,qA,qB,qC] at hk
   go_simp
   exact hk
  ·obtain rfl:=HF.out.got (HD.out 9 (by decide)) (i:=9) rfl rfl
   obtain rfl:=HF.out.got (HD.out 12 (by decide)) (i:=12) rfl rfl
   go_simp
   refine (HC2.out wq hI.1).mono ?_
   rintro e w2 ⟨rfl,hx2⟩
   rcases hr:r2 with _ | x
   ·unfold outE unknE
    go_wp2_with fail
    exact ⟨rfl,HN2.out hr,hI.1.trans hx2⟩
   ·have hk:=HK.out _ w2 (HF.out.put (i:=13) (v:=strV x) (by rw [hr];rfl) (by decide) ⟨hI.1.trans hx2,hI.2.1.ext hx2,hI.2.2.1.ext hx2,hI.2.2.2.ext hx2⟩)
    simp only [puts,Act.put,qA,qB,qC] at hk
    unfold outE
    dsimp only
    go_simp
    exact hk
  ·obtain ⟨x3,hx3,rfl⟩:=HF.out.map (HD.out 3 (by decide)) (i:=3) rfl rfl
   obtain ⟨x8,hx8,rfl⟩:=HF.out.map (HD.out 8 (by decide)) (i:=8) rfl rfl
   obtain ⟨x13,hx13,rfl⟩:=HF.out.map (HD.out 13 (by decide)) (i:=13) rfl rfl
   subst hx3 hx8 hx13
   unfold termV strV
   have hk:=HK.out _ wq (HF.out.put (i:=14) (v:=.agg #[.int .i64 0,.bool x3.1,.string x3.2,.string x8,.string x13,.bool false,.string ⟨#[]⟩]) rfl (by decide) hI)
   simp only [puts,Act.put,qA,qB,qC] at hk
   go_simp
   exact hk
  ·obtain rfl:=HF.out.got (HD.out 14 (by decide)) (i:=14) rfl rfl
   rw [HN.out,if_neg (by decide)] at hI
   rw [if_pos (show Region.wanted _ _ = true from rfl)]
   refine wp_store_row _ _ _ rfl y2 ([.int .i64 0,.bool (r0.getD (false,nilB)).1,.string (r0.getD (false,nilB)).2,.string (r1.getD nilB),.string (r2.getD nilB),.bool false,.string ⟨#[]⟩]).toArray rfl rfl _ _ hI.2.2.2 (by kernel_rfl) rfl (all_oneCell_toArray (by simp [Value.oneCell'])) ?_
   have hk:=HK.out _ _ (HF.out.fin (Nat.le_refl _) ⟨show Ext w (wq.setRow y2 ([.int .i64 0,.bool (r0.getD (false,nilB)).1,.string (r0.getD (false,nilB)).2,.string (r1.getD nilB),.string (r2.getD nilB),.bool false,.string ⟨#[]⟩]).toArray) from below_setRow hI.1 HY.out.2.2 _,(setRow_other _ _ _ _ HY.out.1).trans hI.2.1,(setRow_other _ _ _ _ HY.out.2.1).trans hI.2.2.1,by rw [if_pos rfl];exact hI.2.2.2.setRow _⟩)
   simp only [puts,Act.put,qA,qB,qC] at hk
   exact hk
 ·rintro S us wq hS hF
  obtain ⟨u0,u1,u2,u3,u4,u5,u6,u7,u8,u9,u10,u11,u12,u13,u14,rfl⟩:=len15 hF.len rfl
  obtain rfl:=hF.got (hS 0 (by decide)) (i:=0) rfl rfl
  obtain rfl:=hF.got (hS 1 (by decide)) (i:=1) rfl rfl
  obtain rfl:=hF.got (hS 2 (by decide)) (i:=2) rfl rfl
  obtain ⟨x3,hx3,rfl⟩:=hF.map (hS 3 (by decide)) (i:=3) rfl rfl
  obtain rfl:=hF.got (hS 4 (by decide)) (i:=4) rfl rfl
  obtain rfl:=hF.got (hS 5 (by decide)) (i:=5) rfl rfl
  obtain rfl:=hF.got (hS 6 (by decide)) (i:=6) rfl rfl
  obtain rfl:=hF.got (hS 7 (by decide)) (i:=7) rfl rfl
  obtain ⟨x8,hx8,rfl⟩:=hF.map (hS 8 (by decide)) (i:=8) rfl rfl
  obtain rfl:=hF.got (hS 9 (by decide)) (i:=9) rfl rfl
  obtain rfl:=hF.got (hS 10 (by decide)) (i:=10) rfl rfl
  obtain rfl:=hF.got (hS 11 (by decide)) (i:=11) rfl rfl
  obtain rfl:=hF.got (hS 12 (by decide)) (i:=12) rfl rfl
  obtain ⟨x13,hx13,rfl⟩:=hF.map (hS 13 (by decide)) (i:=13) rfl rfl
  obtain rfl:=hF.got (hS 14 (by decide)) (i:=14) rfl rfl
  have hI:=hF.inv
  rw [hS 15 (by decide)] at hI
  clear hF hS
  simp only [puts,Act.put,qA,qB,qC]
  subst hx3 hx8 hx13
  rw [if_pos rfl] at hI
  simp only [Option.getD_some] at hI ⊢
  have HR:=hid hI.2.2.2
  have HXX:=hid hI.1
  clear hI
  go_wp2_with fail
  exact bodyPost_ret (results_row0 rfl rfl HR.out Tryz.underlying88 rfl (by kernel_rfl)) rfl ⟨HX0.out _ _ _ rfl rfl rfl,HXX.out⟩
end

end Go.Proofs.YtkmbnghghbfkdaaGreat
