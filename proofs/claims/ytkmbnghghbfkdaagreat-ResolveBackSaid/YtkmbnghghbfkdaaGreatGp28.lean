/- What an atom comes to. -/
import Derived.Test.YtkmbnghghbfkdaaGreatGp27
import Derived.Test.YtkmbnghghbfkdaaGreatGp24
import Derived.Test.YtkmbnghghbfkdaaGreatGp25
import Derived.Test.YtkmbnghghbfkdaaGreatGp26
set_option linter.unusedSimpArgs false
set_option linter.unusedVariables false
set_option maxHeartbeats 2000000
set_option maxRecDepth 100000
namespace Go.Proofs.YtkmbnghghbfkdaaGreat
open Go.Lib (hid)

section
open Go.RowKit Go.Shelf Go.Sort
attribute [local go_sem] Oper.semAt_some wide_fn wide_depth
def zB:Bnd:=⟨0,0,zA,zA⟩
theorem bound_e {D:Dic} {V:List ByteArray} {k:Nat} (fk:Bool) (fn name value:ByteArray) (tk:Bool) (tn:ByteArray) {kk ki:Int} (hk:kk = (k:Int) + 1) (hki:ki = k) (h4:k < 4) :
 (∀ b,(bndF D V ⟨kk,fk,fn,name,value,tk,tn⟩).map bnd0 = some b → Ending.returned (.agg #[.int .i64 ki,.int .i64 b.name,.int .i64 b.a.var,.int .i64 b.a.id,.int .i64 b.b.var,.int .i64 b.b.id]) = outE (bndF D V ⟨kk,fk,fn,name,value,tk,tn⟩) bndV) ∧
  ((bndF D V ⟨kk,fk,fn,name,value,tk,tn⟩).map bnd0 = none → unknE = outE (bndF D V ⟨kk,fk,fn,name,value,tk,tn⟩) bndV):=by
 have hkd:∀ b,bndF D V ⟨kk,fk,fn,name,value,tk,tn⟩ = some b → b.kind = k:=by
  intro b hb
  subst hk
  have hc:k = 0 ∨ k = 1 ∨ k = 2 ∨ k = 3:=by omega
  rcases hc with rfl | rfl | rfl | rfl
  ·rw [show ((0:Nat):Int) + 1 = 1 from rfl,bndF1] at hb
   obtain ⟨x,_,rfl⟩:=Option.map_eq_some_iff.1 hb
   rfl
  ·rw [show ((1:Nat):Int) + 1 = 2 from rfl,bndF2] at hb
   obtain ⟨x,_,hb⟩:=Option.bind_eq_some_iff.1 hb
   split at hb <;> cases hb
   rfl
  ·rw [show ((2:Nat):Int) + 1 = 3 from rfl,bndF3] at hb
   obtain ⟨x,_,hb⟩:=Option.bind_eq_some_iff.1 hb
   split at hb <;> cases hb
   rfl
  ·rw [show ((3:Nat):Int) + 1 = 4 from rfl,bndF4] at hb
   obtain ⟨x,_,hb⟩:=Option.bind_eq_some_iff.1 hb
   obtain ⟨y,_,hb⟩:=Option.bind_eq_some_iff.1 hb
   split at hb <;> cases hb
   rfl
 cases hb:bndF D V ⟨kk,fk,fn,name,value,tk,tn⟩ with
 | none=>exact ⟨fun b h=>by simp at h,fun _=>rfl⟩
 | some b =>
  refine ⟨fun b' h=>?_,fun h=>by simp at h⟩
  simp only [Option.map_some,Option.some.injEq] at h
  subst h
  rw [hki,← hkd b hb]
  rfl
set_option maxHeartbeats 4000000 in
theorem boundK_any (k:Nat) (hk4:k < 4) (f:Nat) (hwf:waysL[k * 3 + 1]? = some (.func (.func f) #[] #[])) (eg:∀ args w,(callFunc f args).run Tryz.prog w = .ok (.enter f args) w) (vs:Nat → Value × Value) (m:Nat) (av:Value) (D:Dic) (V:List ByteArray) (w:World) (fk:Bool) (fn name value:ByteArray) (tk:Bool) (tn:ByteArray)
 (hC:∀ w',Ext w w' → Calls Tryz.prog f #[nmV vs m av,atV ⟨(k:Int) + 1,fk,fn,name,value,tk,tn⟩] w' fun e w''=>e = outE ((bndF D V ⟨(k:Int) + 1,fk,fn,name,value,tk,tn⟩).map bnd0) bndV ∧ Ext w' w'') :
 Calls Tryz.prog 48 #[nmV vs m av,atV ⟨(k:Int) + 1,fk,fn,name,value,tk,tn⟩] w fun e w'=>e = outE (bndF D V ⟨(k:Int) + 1,fk,fn,name,value,tk,tn⟩) bndV ∧ Ext w w':=by
 have hmo:Tryz.prog.follows .mixedOrders = true:=by kernel_rfl
 have hXs:=bound_e (D:=D) (V:=V) (k:=k) (kk:=(k:Int) + 1) (ki:=k) fk fn name value tk tn rfl rfl hk4
 obtain ⟨X,hX⟩:∃ X,outE (bndF D V ⟨(k:Int) + 1,fk,fn,name,value,tk,tn⟩) bndV = X:=⟨_,rfl⟩
 rw [hX] at hXs ⊢
 obtain ⟨r,hr⟩:∃ r,(bndF D V ⟨(k:Int) + 1,fk,fn,name,value,tk,tn⟩).map bnd0 = r:=⟨_,rfl⟩
 rw [hr] at hC hXs
 have HX0:=hid hXs.1
 have HN0:=hid hXs.2
 have HC:=hid hC
 have HWF:=hid hwf
 clear hC hXs hr hX hwf
 unfold nmV atV at *
 dsimp only at *
 have hbx:=boxes3 w (nmL vs m av) 98 ([.int .i64 ((k:Int) + 1),.bool fk,.string fn,.string name,.string value,.bool tk,.string tn]) 88 ([.int .i64 0,.int .i64 0,.int .i64 0,.int .i64 0,.int .i64 0,.int .i64 0]) 75
 have HBX:=hid hbx
 clear hbx
 go_enter Tryz.func48,Tryz.ntmps48
 go_upto_region 1 with fail
 generalize ((w.alloc (.cells (nmL vs m av).toArray 98)).alloc (.cells ([.int .i64 ((k:Int) + 1),.bool fk,.string fn,.string name,.string value,.bool tk,.string tn]).toArray 88)).alloc (.cells ([.int .i64 0,.int .i64 0,.int .i64 0,.int .i64 0,.int .i64 0,.int .i64 0]).toArray 75) = w1 at *
 obtain ⟨y0,hy0⟩:∃ x,w.heap.size = x:=⟨_,rfl⟩
 obtain ⟨y1,hy1⟩:∃ x,y0 + 1 = x:=⟨_,rfl⟩
 obtain ⟨y2,hy2⟩:∃ x,y1 + 1 = x:=⟨_,rfl⟩
 rw [hy0,hy1,hy2] at HBX
 simp only [hy0,hy1,hy2]
 have HN:=hid (show w.heap.size = y0 ∧ y0 + 1 = y1 ∧ y1 + 1 = y2 from ⟨hy0,hy1,hy2⟩)
 have HX:=hid HBX.out.1
 have H0:=hid HBX.out.2.1
 have H1:=hid HBX.out.2.2.1
 have H2:=hid HBX.out.2.2.2
 clear hy0 hy1 hy2 HBX
 apply wp_region_lit
 refine wpList_plain rfl fun K1 hK1=>?_
 go_simp
 refine (ways_any w1).mono ?_;rintro e w2 ⟨rfl,hx2⟩
 go_simp
 refine hK1 _ _ ?_
 clear hK1 K1
 (refine wpList_plain rfl fun Y y'=>?_;go_simp;refine y' _ _ ?_;clear y' Y)
 have hax:=Ext.alloc w2 (.cells #[.int .i64 0,.nilFunc,.nilFunc,.int .i64 0,.nilFunc,.nilFunc,.int .i64 0,.nilFunc,.nilFunc,.int .i64 0,.nilFunc,.nilFunc] 148)
 have har:RowAt (w2.alloc (.cells #[.int .i64 0,.nilFunc,.nilFunc,.int .i64 0,.nilFunc,.nilFunc,.int .i64 0,.nilFunc,.nilFunc,.int .i64 0,.nilFunc,.nilFunc] 148)) w2.heap.size 148 (#[.int .i64 0,.nilFunc,.nilFunc,.int .i64 0,.nilFunc,.nilFunc,.int .i64 0,.nilFunc,.nilFunc,.int .i64 0,.nilFunc,.nilFunc]).toList:=RowAt.new _ _ _
 refine plain_store rfl _ _ _ rfl w2.heap.size (waysL) rfl rfl har (by kernel_rfl) rfl ((by simp [waysL,Value.oneCell'])) ?_
 have hex:Ext w2 ((w2.alloc (.cells #[.int .i64 0,.nilFunc,.nilFunc,.int .i64 0,.nilFunc,.nilFunc,.int .i64 0,.nilFunc,.nilFunc,.int .i64 0,.nilFunc,.nilFunc] 148)).setRow w2.heap.size (waysL).toArray):=below_setRow hax (Nat.le_refl _) _
 have HEw3:=hid hex
 have HRg:=hid (har.setRow (waysL))
 clear hax har hex
 go_simp
 generalize (w2.alloc (.cells #[.int .i64 0,.nilFunc,.nilFunc,.int .i64 0,.nilFunc,.nilFunc,.int .i64 0,.nilFunc,.nilFunc,.int .i64 0,.nilFunc,.nilFunc] 148)).setRow w2.heap.size (waysL).toArray = w3 at *
 obtain ⟨g,hsg⟩:∃ x,w2.heap.size = x:=⟨_,rfl⟩
 rw [hsg] at HRg
 simp only [hsg]
 have HSg:=hid hsg
 clear hsg
 apply wpList_nil
 have HX3:=hid ((HX.out.trans hx2).trans HEw3.out)
 have HE3:=hid (hx2.trans HEw3.out)
 have G0:=hid (H0.out.ext HE3.out)
 have G1:=hid (H1.out.ext HE3.out)
 have G2:=hid (H2.out.ext HE3.out)
 have HZ:=hid (show y0 < g ∧ y1 < g ∧ y2 < g ∧ w.heap.size ≤ y2 ∧ y0 ≠ y2 ∧ y1 ≠ y2 by have:=HN.out;have:=HSg.out;have:=(H2.out.ext hx2).lt;omega)
 clear hx2 HEw3 HE3 H0 H1 H2 HX HSg HN
 have hk0:=G1.out.cell (i:=0) rfl
 go_wp2_with fail
 refine (idxWay_any k hk4 g y1 w3 HRg.out hk0).mono ?_
 rintro e w4 ⟨rfl,hx4⟩
 have HX4:=hid (HX3.out.trans hx4)
 replace G0:=hid (G0.out.ext hx4)
 replace G1:=hid (G1.out.ext hx4)
 replace G2:=hid (G2.out.ext hx4)
 replace HRg:=hid (HRg.out.ext hx4)
 clear hx4 HX3 hk0
 go_wp2_with fail
 refine (need_yes _).mono ?_
 rintro e w5 ⟨rfl,rfl⟩
 go_upto_region 4 with fail
 refine wp_region_inv [15,16,17,18,19,20,21,7] _ (fun i=>([[],[0],[1],[2],[],[],[3,4,5],[],[6,7]]:List (List Nat)).getD i []) (fun S us W=>∃ z,PlF ((fun z al bb W=>Ext w W ∧ RowAt W y0 98 (nmL vs m av) ∧ RowAt W y1 88 [.int .i64 ((k:Int) + 1),.bool fk,.string fn,.string name,.string value,.bool tk,.string tn] ∧ RowAt W y2 75 [.int .i64 0,.int .i64 0,.int .i64 0,.int .i64 0,.int .i64 0,.int .i64 0] ∧ RowAt W g 148 waysL ∧ (bb = true → al = true) ∧ (al = true → y2 < z ∧ y0 < z ∧ y1 < z ∧ g < z ∧ RowAt W z 75 (if bb = true then bndCells (r.getD zB) else [.int .i64 0,.int .i64 0,.int .i64 0,.int .i64 0,.int .i64 0,.int .i64 0]))) z (S 7)) [some (.int .i64 k),some (.pointer (some ⟨g,k * 3,none⟩)),some (.pointer (some ⟨g,k * 3 + 1,none⟩)),some (.func (.func f) #[] #[]),some (.agg (nmL vs m av).toArray),some (.agg #[.int .i64 ((k:Int) + 1),.bool fk,.string fn,.string name,.string value,.bool tk,.string tn]),r.map bndV,some (.pointer (some ⟨z,0,none⟩))] 8 S us W) hmo (by kernel_rfl) (by kernel_rfl) (puts_self _ _) ⟨0,PlF.start rfl (⟨HX4.out.trans (Ext.drewN w4 1),G0.out.ext (Ext.drewN w4 1),G1.out.ext (Ext.drewN w4 1),G2.out.ext (Ext.drewN w4 1),HRg.out.ext (Ext.drewN w4 1),nofun,nofun⟩)⟩ ?_ ?_
 ·refine ⟨?_,?_,?_,?_,?_,?_,?_,?_,?_,trivial⟩
  all_goals
   rintro S us wq hd hn ⟨z,hF⟩ K hK
   obtain ⟨u0,u1,u2,u3,u4,u5,u6,u7,rfl⟩:=len8 hF.len rfl
   have hI:=hF.inv
   have HK:=hid (fun us' w'' z' h=>hK us' w'' ⟨z',h⟩)
   have HF:=hid hF
   have HN:=hid hn
   have HD:=hid hd
   clear hK hF hn hd
   simp only [puts,Act.put,qA,qB,qC]
  ·have hk:=HK.out _ wq z (HF.out.put (i:=0) (v:=.int .i64 k) rfl (by decide) hI)
   simp only [puts,Act.put,qA,qB,qC] at hk
   go_simp
   exact hk
  ·obtain rfl:=HF.out.got (HD.out 0 (by decide)) (i:=0) rfl rfl
   have hk5:((k:Int) < 4) = True:=by simp;omega
   have hk:=HK.out _ wq z (HF.out.put (i:=1) (v:=.pointer (some ⟨g,k * 3,none⟩)) rfl (by decide) hI)
   simp only [puts,Act.put,qA,qB,qC] at hk
   go_simp
   exact hk
  ·obtain rfl:=HF.out.got (HD.out 1 (by decide)) (i:=1) rfl rfl
   have hk:=HK.out _ wq z (HF.out.put (i:=2) (v:=.pointer (some ⟨g,k * 3 + 1,none⟩)) rfl (by decide) hI)
   simp only [puts,Act.put,qA,qB,qC] at hk
   go_simp
   exact hk
  ·obtain rfl:=HF.out.got (HD.out 2 (by decide)) (i:=2) rfl rfl
   have c:=hI.2.2.2.2.1.cell HWF.out
   have hk:=HK.out _ wq z (HF.out.put (i:=3) (v:=.func (.func f) #[] #[]) rfl (by decide) hI)
   simp only [puts,Act.put,qA,qB,qC] at hk
   go_simp
   exact hk
  ·have hk:=HK.out _ wq z (HF.out.put (i:=4) (v:=.agg (nmL vs m av).toArray) rfl (by decide) hI)
   simp only [puts,Act.put,qA,qB,qC] at hk
   rw [if_pos (show Region.wanted _ _ = true from rfl)]
   refine wp_load_mid _ _ rfl y0 0 rfl _ _ (hI.2.1.whole) Tryz.underlying98 rfl (by kernel_rfl) ?_
   exact hk
  ·have hk:=HK.out _ wq z (HF.out.put (i:=5) (v:=.agg #[.int .i64 ((k:Int) + 1),.bool fk,.string fn,.string name,.string value,.bool tk,.string tn]) rfl (by decide) hI)
   simp only [puts,Act.put,qA,qB,qC] at hk
   rw [if_pos (show Region.wanted _ _ = true from rfl)]
   refine wp_load_mid _ _ rfl y1 0 rfl _ _ (hI.2.2.1.whole) Tryz.underlying88 rfl (by kernel_rfl) ?_
   exact hk
  ·obtain rfl:=HF.out.got (HD.out 3 (by decide)) (i:=3) rfl rfl
   obtain rfl:=HF.out.got (HD.out 4 (by decide)) (i:=4) rfl rfl
   obtain rfl:=HF.out.got (HD.out 5 (by decide)) (i:=5) rfl rfl
   go_simp
   refine (HC.out wq hI.1).mono ?_
   rintro e w2 ⟨rfl,hx2⟩
   rcases hr:r with _ | x
   ·unfold outE unknE
    go_wp2_with fail
    exact ⟨rfl,HN0.out hr,hI.1.trans hx2⟩
   ·have hk:=HK.out _ w2 z (HF.out.put (i:=6) (v:=bndV x) (by rw [hr];rfl) (by decide) ⟨hI.1.trans hx2,hI.2.1.ext hx2,hI.2.2.1.ext hx2,hI.2.2.2.1.ext hx2,hI.2.2.2.2.1.ext hx2,hI.2.2.2.2.2.1,fun e=>by obtain ⟨a1,a2,a3,a4,a5⟩:=hI.2.2.2.2.2.2 e;exact ⟨a1,a2,a3,a4,a5.ext hx2⟩⟩)
    simp only [puts,Act.put,qA,qB,qC] at hk
    unfold outE
    dsimp only
    go_simp
    exact hk
  ·have h8:S 8 = false:=by cases h:S 8;rfl;exact absurd (hI.2.2.2.2.2.1 h) (by rw [HN.out];decide)
   have hx2:=Ext.alloc wq (.cells #[.int .i64 0,.int .i64 0,.int .i64 0,.int .i64 0,.int .i64 0,.int .i64 0] 75)
   have hr2:RowAt (wq.alloc (.cells #[.int .i64 0,.int .i64 0,.int .i64 0,.int .i64 0,.int .i64 0,.int .i64 0] 75)) wq.heap.size 75 [.int .i64 0,.int .i64 0,.int .i64 0,.int .i64 0,.int .i64 0,.int .i64 0]:=RowAt.new _ _ _
   have hk:=HK.out _ _ wq.heap.size (HF.out.alloc (i:=7) (v:=.pointer (some ⟨wq.heap.size,0,none⟩)) HN.out (by show 7 < 8;decide) (by decide) (J:=(fun z al bb W=>Ext w W ∧ RowAt W y0 98 (nmL vs m av) ∧ RowAt W y1 88 [.int .i64 ((k:Int) + 1),.bool fk,.string fn,.string name,.string value,.bool tk,.string tn] ∧ RowAt W y2 75 [.int .i64 0,.int .i64 0,.int .i64 0,.int .i64 0,.int .i64 0,.int .i64 0] ∧ RowAt W g 148 waysL ∧ (bb = true → al = true) ∧ (al = true → y2 < z ∧ y0 < z ∧ y1 < z ∧ g < z ∧ RowAt W z 75 (if bb = true then bndCells (r.getD zB) else [.int .i64 0,.int .i64 0,.int .i64 0,.int .i64 0,.int .i64 0,.int .i64 0]))) wq.heap.size true) ⟨hI.1.trans hx2,hI.2.1.ext hx2,hI.2.2.1.ext hx2,hI.2.2.2.1.ext hx2,hI.2.2.2.2.1.ext hx2,fun _=>rfl,fun _=>⟨hI.2.2.2.1.lt,hI.2.1.lt,hI.2.2.1.lt,hI.2.2.2.2.1.lt,by rw [h8,if_neg (by decide)];exact hr2⟩⟩)
   simp only [puts,Act.put,qA,qB,qC] at hk
   go_simp
   exact hk
  ·obtain ⟨x6,hx6,rfl⟩:=HF.out.map (HD.out 6 (by decide)) (i:=6) rfl rfl
   obtain rfl:=HF.out.got (HD.out 7 (by decide)) (i:=7) rfl rfl
   have h7:=HD.out 7 (by decide)
   obtain ⟨a1,a2,a3,a4,a5⟩:=hI.2.2.2.2.2.2 h7
   rw [HN.out,if_neg (by decide)] at a5
   subst hx6
   rw [if_pos (show Region.wanted _ _ = true from rfl)]
   refine wp_store_row _ _ _ rfl z (bndCells x6).toArray rfl rfl _ _ a5 (by kernel_rfl) rfl (all_oneCell_toArray (by simp [bndCells,Value.oneCell'])) ?_
   have hk:=HK.out _ _ z (HF.out.fin (Nat.le_refl _) ⟨show Ext w (wq.setRow z (bndCells x6).toArray) from below_setRow hI.1 (by have:=HZ.out;omega) _,(setRow_other _ _ _ _ (by omega)).trans hI.2.1,(setRow_other _ _ _ _ (by omega)).trans hI.2.2.1,(setRow_other _ _ _ _ (by omega)).trans hI.2.2.2.1,(setRow_other _ _ _ _ (by omega)).trans hI.2.2.2.2.1,fun _=>h7,fun _=>⟨a1,a2,a3,a4,by rw [if_pos rfl];exact a5.setRow _⟩⟩)
   simp only [puts,Act.put,qA,qB,qC] at hk
   exact hk
 ·rintro S us wq hS ⟨z,hF⟩
  obtain ⟨u0,u1,u2,u3,u4,u5,u6,u7,rfl⟩:=len8 hF.len rfl
  obtain rfl:=hF.got (hS 0 (by decide)) (i:=0) rfl rfl
  obtain rfl:=hF.got (hS 1 (by decide)) (i:=1) rfl rfl
  obtain rfl:=hF.got (hS 2 (by decide)) (i:=2) rfl rfl
  obtain rfl:=hF.got (hS 3 (by decide)) (i:=3) rfl rfl
  obtain rfl:=hF.got (hS 4 (by decide)) (i:=4) rfl rfl
  obtain rfl:=hF.got (hS 5 (by decide)) (i:=5) rfl rfl
  obtain ⟨x6,hx6,rfl⟩:=hF.map (hS 6 (by decide)) (i:=6) rfl rfl
  obtain rfl:=hF.got (hS 7 (by decide)) (i:=7) rfl rfl
  have hI:=hF.inv
  rw [hS 8 (by decide),hS 7 (by decide)] at hI
  clear hF hS
  simp only [puts,Act.put,qA,qB,qC]
  obtain ⟨hX5,_,_,h2,_,_,h5⟩:=hI
  obtain ⟨a1,_,_,_,a5⟩:=h5 rfl
  rw [if_pos rfl] at a5
  subst hx6
  have HX5:=hid hX5
  have HY2:=hid h2
  have HZZ:=hid (show RowAt wq z 75 (bndCells x6) from a5)
  have HLT:=hid a1
  clear hX5 h2 h5 a1 a5 HX4 G0 G1 G2 HRg
  have c0:=HZZ.out.cell (i:=0) rfl
  have f0:=HZZ.out.frozen 0
  go_upto_region 6 with fail
  have HZ6:Hid (RowAt (wq.setCell ⟨z,0,none⟩ (.int .i64 k)) z 75 [.int .i64 k,.int .i64 x6.name,.int .i64 x6.a.var,.int .i64 x6.a.id,.int .i64 x6.b.var,.int .i64 x6.b.id]):=hid (HZZ.out.set 0 (.int .i64 k))
  have HY6:=hid (HY2.out.kept (grown_set wq z 0 (.int .i64 k)) (fun e=>by have:=Option.some.inj e;have:=HLT.out;omega))
  have HX6:=hid (Ext.set_of HX5.out (show w.heap.size ≤ z by have:=HLT.out;have:=HZ.out;omega) (o:=0) (.int .i64 k))
  clear c0 f0 HZZ HY2 HX5
  generalize wq.setCell ⟨z,0,none⟩ (.int .i64 k) = w6 at *
  apply wp_region_lit
  refine plain_load rfl _ _ rfl z rfl _ _ (HZ6.out) Tryz.underlying75 rfl (by kernel_rfl) ?_
  go_simp
  refine plain_store rfl _ _ _ rfl y2 ([.int .i64 k,.int .i64 x6.name,.int .i64 x6.a.var,.int .i64 x6.a.id,.int .i64 x6.b.var,.int .i64 x6.b.id]) rfl rfl (HY6.out) (by kernel_rfl) rfl ((by simp [Value.oneCell'])) ?_
  have HRR:=hid ((HY6.out).setRow ([.int .i64 k,.int .i64 x6.name,.int .i64 x6.a.var,.int .i64 x6.a.id,.int .i64 x6.b.var,.int .i64 x6.b.id]))
  have HXX:=hid (show Ext w ((w6).setRow y2 ([.int .i64 k,.int .i64 x6.name,.int .i64 x6.a.var,.int .i64 x6.a.id,.int .i64 x6.b.var,.int .i64 x6.b.id]).toArray) from below_setRow (HX6.out) ((by have:=HZ.out;omega)) _)
  go_simp
  apply wpList_nil
  go_wp2_with fail
  exact bodyPost_ret (results_row0 rfl rfl HRR.out Tryz.underlying75 rfl (by kernel_rfl)) rfl (⟨HX0.out x6 rfl,HXX.out⟩)
theorem bound_any (vs:Nat → Value × Value) (m:Nat) (av:Value) (D:Dic) (V:List ByteArray) (w:World) (hV:DicV w vs D) (hS:DicS D) (h:DicOK D) (hm:VarsAt w m V) (hd:Distinct V) (a:Atm)
 (hk:a.kind = 1 ∨ a.kind = 2 ∨ a.kind = 3 ∨ a.kind = 4) (hf:a.Fits) (hin:a.In V) :
 Calls Tryz.prog 48 #[nmV vs m av,atV a] w fun e w'=>e = outE (bndF D V a) bndV ∧ Ext w w':=by
 obtain ⟨k,fk,fn,name,value,tk,tn⟩:=a
 dsimp only at hk
 rcases hk with rfl | rfl | rfl | rfl
 ·exact boundK_any 0 (by omega) _ rfl (fun _ _=>rfl) vs m av D V w fk fn name value tk tn (fun w' hx=>way1_any vs m av D V w' (hV.ext hx) hS h (hm.ext hx) hd fk fn name value tk tn hf hin)
 ·exact boundK_any 1 (by omega) _ rfl (fun _ _=>rfl) vs m av D V w fk fn name value tk tn (fun w' hx=>way3_any vs m av D V w' (hV.ext hx) hS h (hm.ext hx) hd fk fn name value tk tn hf hin)
 ·exact boundK_any 2 (by omega) _ rfl (fun _ _=>rfl) vs m av D V w fk fn name value tk tn (fun w' hx=>way5_any vs m av D V w' (hV.ext hx) hS h (hm.ext hx) hd fk fn name value tk tn hf hin)
 ·exact boundK_any 3 (by omega) _ rfl (fun _ _=>rfl) vs m av D V w fk fn name value tk tn (fun w' hx=>way7_any vs m av D V w' (hV.ext hx) hS h (hm.ext hx) hd fk fn name value tk tn hf hin)
end

end Go.Proofs.YtkmbnghghbfkdaaGreat
