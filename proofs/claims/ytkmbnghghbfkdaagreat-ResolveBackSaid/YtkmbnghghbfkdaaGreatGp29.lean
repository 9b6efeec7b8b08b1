/- The atom that comes to something. -/
import Derived.Test.YtkmbnghghbfkdaaGreatGp27
import Derived.Test.YtkmbnghghbfkdaaGreatGp25
import Derived.Test.YtkmbnghghbfkdaaGreatGp26
import Derived.Test.YtkmbnghghbfkdaaGreatGp23
import Derived.Test.YtkmbnghghbfkdaaGreatGp02
import Derived.Test.YtkmbnghghbfkdaaGreatGp09
import Derived.Test.YtkmbnghghbfkdaaGreatGp14
set_option linter.unusedSimpArgs false
set_option linter.unusedVariables false
set_option maxHeartbeats 2000000
set_option maxRecDepth 100000
namespace Go.Proofs.YtkmbnghghbfkdaaGreat
open Go.Lib (hid)

section
open Go.RowKit Go.Shelf Go.Sort
attribute [local go_sem] Oper.semAt_some wide_fn wide_depth
theorem natom_e {D:Dic} {V:List ByteArray} {k:Int} {kk:Int} (n:Int) (a b:Arg) (hk:kk = k + 1) (h4:0 ≤ k ∧ k < 4) :
 (∀ x,(atmF D V ⟨k,n,a,b⟩).map atm0 = some x → Ending.returned (.agg #[.int .i64 kk,.bool x.fk,.string x.fn,.string x.name,.string x.value,.bool x.tk,.string x.tn]) = outE (atmF D V ⟨k,n,a,b⟩) atV) ∧
  ((atmF D V ⟨k,n,a,b⟩).map atm0 = none → unknE = outE (atmF D V ⟨k,n,a,b⟩) atV):=by
 have hkd:∀ x,atmF D V ⟨k,n,a,b⟩ = some x → x.kind = kk:=by
  intro x hx
  subst hk
  have hc:k = 0 ∨ k = 1 ∨ k = 2 ∨ k = 3:=by omega
  rcases hc with rfl | rfl | rfl | rfl
  ·rw [atmF0] at hx
   obtain ⟨t,_,rfl⟩:=Option.map_eq_some_iff.1 hx
   rfl
  ·rw [atmF1] at hx
   obtain ⟨t,_,hx⟩:=Option.bind_eq_some_iff.1 hx
   obtain ⟨s,_,rfl⟩:=Option.map_eq_some_iff.1 hx
   rfl
  ·rw [atmF2] at hx
   obtain ⟨t,_,hx⟩:=Option.bind_eq_some_iff.1 hx
   obtain ⟨s,_,hx⟩:=Option.bind_eq_some_iff.1 hx
   obtain ⟨v,_,rfl⟩:=Option.map_eq_some_iff.1 hx
   rfl
  ·rw [atmF3] at hx
   obtain ⟨t,_,hx⟩:=Option.bind_eq_some_iff.1 hx
   obtain ⟨s,_,hx⟩:=Option.bind_eq_some_iff.1 hx
   obtain ⟨v,_,rfl⟩:=Option.map_eq_some_iff.1 hx
   rfl
 cases hb:atmF D V ⟨k,n,a,b⟩ with
 | none=>exact ⟨fun b h=>by simp at h,fun _=>rfl⟩
 | some x =>
  refine ⟨fun x' h=>?_,fun h=>by simp at h⟩
  simp only [Option.map_some,Option.some.injEq] at h
  subst h
  rw [← hkd x hb]
  rfl
set_option maxHeartbeats 4000000 in
theorem natomK_any (k:Nat) (hk4:k < 4) (f1 f2:Nat) (hix:∀ w,(Instr.index 148 waysV (.int .i64 (k:Int))).run Tryz.prog w = .ok (.agg #[.int .i64 ((k:Int) + 1),.func (.func f1) #[] #[],.func (.func f2) #[] #[]]) w) (eg:∀ args w,(callFunc f2 args).run Tryz.prog w = .ok (.enter f2 args) w) (vs:Nat → Value × Value) (m:Nat) (av:Value) (D:Dic) (V:List ByteArray) (w:World) (n:Int) (a b:Arg)
 (hC:∀ w',Ext w w' → Calls Tryz.prog f2 #[nmV vs m av,bndV ⟨(k:Int),n,a,b⟩] w' fun e w''=>e = outE ((atmF D V ⟨(k:Int),n,a,b⟩).map atm0) atV ∧ Ext w' w'') :
 Calls Tryz.prog 61 #[nmV vs m av,bndV ⟨(k:Int),n,a,b⟩] w fun e w'=>e = outE (atmF D V ⟨(k:Int),n,a,b⟩) atV ∧ Ext w w':=by
 have hmo:Tryz.prog.follows .mixedOrders = true:=by kernel_rfl
 have hXs:=natom_e (D:=D) (V:=V) (k:=(k:Int)) (kk:=(k:Int) + 1) n a b rfl (by omega)
 obtain ⟨X,hX⟩:∃ X,outE (atmF D V ⟨(k:Int),n,a,b⟩) atV = X:=⟨_,rfl⟩
 rw [hX] at hXs ⊢
 obtain ⟨r,hr⟩:∃ r,(atmF D V ⟨(k:Int),n,a,b⟩).map atm0 = r:=⟨_,rfl⟩
 rw [hr] at hC hXs
 have HX0:=hid hXs.1
 have HN0:=hid hXs.2
 have HC:=hid hC
 have HIX:=hid hix
 clear hC hXs hr hX hix
 unfold nmV bndV bndCells at *
 dsimp only at *
 have hbx:=boxes3 w (nmL vs m av) 98 ([.int .i64 (k:Int),.int .i64 n,.int .i64 a.var,.int .i64 a.id,.int .i64 b.var,.int .i64 b.id]) 75 ([.int .i64 0,.bool false,.string ⟨#[]⟩,.string ⟨#[]⟩,.string ⟨#[]⟩,.bool false,.string ⟨#[]⟩]) 88
 have HBX:=hid hbx
 clear hbx
 go_enter Tryz.func61,Tryz.ntmps61
 go_upto_region 1 with fail
 generalize ((w.alloc (.cells (nmL vs m av).toArray 98)).alloc (.cells ([.int .i64 (k:Int),.int .i64 n,.int .i64 a.var,.int .i64 a.id,.int .i64 b.var,.int .i64 b.id]).toArray 75)).alloc (.cells ([.int .i64 0,.bool false,.string ⟨#[]⟩,.string ⟨#[]⟩,.string ⟨#[]⟩,.bool false,.string ⟨#[]⟩]).toArray 88) = w1 at *
 obtain ⟨y0,hy0⟩:∃ x,w.heap.size = x:=⟨_,rfl⟩
 obtain ⟨y1,hy1⟩:∃ x,y0 + 1 = x:=⟨_,rfl⟩
 obtain ⟨y2,hy2⟩:∃ x,y1 + 1 = x:=⟨_,rfl⟩
 rw [hy0,hy1,hy2] at HBX
 simp only [hy0,hy1,hy2]
 have HN:=hid (show w.heap.size = y0 ∧ y0 + 1 = y1 ∧ y1 + 1 = y2 from ⟨hy0,hy1,hy2⟩)
 have HX:=hid HBX.out.1
 have H0:=hid HBX.out.2.1
 have H1:=hid HBX.out.2.2.1
 have H2:=hid HBX.out.2.2.2
 clear hy0 hy1 hy2 HBX
 have HY:=hid (show y0 ≠ y2 ∧ y1 ≠ y2 ∧ w.heap.size ≤ y2 by have:=HN.out;omega)
 clear HN
 have c0:=H1.out.cell (i:=0) rfl
 have hb1:decide (0 ≤ (k:Int)) = true:=by simp
 have hb2:decide ((k:Int) ≤ 3) = true:=by simp;omega
 go_wp2_with fail
 refine (need_yes _).mono ?_
 rintro e w5 ⟨rfl,rfl⟩
 clear c0 hb1 hb2
 go_upto_region 2 with fail
 refine wp_region_inv [18,19,20,21,22,5] _ (fun i=>([[],[],[1],[2],[0,3],[],[4,5]]:List (List Nat)).getD i []) (fun S us W=>∃ z,PlF ((fun z al bb W=>Ext w W ∧ RowAt W y0 98 (nmL vs m av) ∧ RowAt W y1 75 [.int .i64 (k:Int),.int .i64 n,.int .i64 a.var,.int .i64 a.id,.int .i64 b.var,.int .i64 b.id] ∧ RowAt W y2 88 [.int .i64 0,.bool false,.string ⟨#[]⟩,.string ⟨#[]⟩,.string ⟨#[]⟩,.bool false,.string ⟨#[]⟩] ∧ (bb = true → al = true) ∧ (al = true → y2 < z ∧ y0 < z ∧ y1 < z ∧ RowAt W z 147 (if bb = true then [.int .i64 ((k:Int) + 1),.func (.func f1) #[] #[],.func (.func f2) #[] #[]] else [.int .i64 0,.nilFunc,.nilFunc]))) z (S 5)) [some (waysV),some (.pointer (some ⟨y1,0,none⟩)),some (.pointer (some ⟨y1,0,none⟩)),some (.int .i64 (k:Int)),some (.agg #[.int .i64 ((k:Int) + 1),.func (.func f1) #[] #[],.func (.func f2) #[] #[]]),some (.pointer (some ⟨z,0,none⟩))] 6 S us W) hmo (by kernel_rfl) (by kernel_rfl) (puts_self _ _) ⟨0,PlF.start rfl (⟨HX.out.trans (Ext.drewN w1 1),H0.out.ext (Ext.drewN w1 1),H1.out.ext (Ext.drewN w1 1),H2.out.ext (Ext.drewN w1 1),nofun,nofun⟩)⟩ ?_ ?_
 ·refine ⟨?_,?_,?_,?_,?_,?_,?_,trivial⟩
  all_goals
   rintro S us wq hd hn ⟨z,hF⟩ K hK
   obtain ⟨u0,u1,u2,u3,u4,u5,rfl⟩:=len6 hF.len rfl
   have hI:=hF.inv
   have HK:=hid (fun us' w'' z' h=>hK us' w'' ⟨z',h⟩)
   have HF:=hid hF
   have HN:=hid hn
   have HD:=hid hd
   clear hK hF hn hd
   simp only [puts,Act.put,qA,qB,qC]
  ·go_simp
   refine (ways_any wq).mono ?_
   rintro e w2 ⟨rfl,hx2⟩
   have hk:=HK.out _ w2 z (HF.out.put (i:=0) (v:=waysV) rfl (by decide) ⟨hI.1.trans hx2,hI.2.1.ext hx2,hI.2.2.1.ext hx2,hI.2.2.2.1.ext hx2,hI.2.2.2.2.1,fun e=>by obtain ⟨a1,a2,a3,a4⟩:=hI.2.2.2.2.2 e;exact ⟨a1,a2,a3,a4.ext hx2⟩⟩)
   simp only [puts,Act.put,qA,qB,qC] at hk
   go_simp
   exact hk
  ·have hk:=HK.out _ wq z (HF.out.put (i:=1) (v:=.pointer (some ⟨y1,0,none⟩)) rfl (by decide) hI)
   simp only [puts,Act.put,qA,qB,qC] at hk
   go_simp
   exact hk
  ·obtain rfl:=HF.out.got (HD.out 1 (by decide)) (i:=1) rfl rfl
   have hk:=HK.out _ wq z (HF.out.put (i:=2) (v:=.pointer (some ⟨y1,0,none⟩)) rfl (by decide) hI)
   simp only [puts,Act.put,qA,qB,qC] at hk
   go_simp
   exact hk
  ·obtain rfl:=HF.out.got (HD.out 2 (by decide)) (i:=2) rfl rfl
   have c:=hI.2.2.1.cell (i:=0) rfl
   have hk:=HK.out _ wq z (HF.out.put (i:=3) (v:=.int .i64 (k:Int)) rfl (by decide) hI)
   simp only [puts,Act.put,qA,qB,qC] at hk
   go_simp
   exact hk
  ·obtain rfl:=HF.out.got (HD.out 0 (by decide)) (i:=0) rfl rfl
   obtain rfl:=HF.out.got (HD.out 3 (by decide)) (i:=3) rfl rfl
   have hix:=HIX.out
   have hk:=HK.out _ wq z (HF.out.put (i:=4) (v:=.agg #[.int .i64 ((k:Int) + 1),.func (.func f1) #[] #[],.func (.func f2) #[] #[]]) rfl (by decide) hI)
   simp only [puts,Act.put,qA,qB,qC] at hk
   go_simp
   exact hk
  ·have h6:S 6 = false:=by cases h:S 6;rfl;exact absurd (hI.2.2.2.2.1 h) (by rw [HN.out];decide)
   have hx2:=Ext.alloc wq (.cells #[.int .i64 0,.nilFunc,.nilFunc] 147)
   have hr2:RowAt (wq.alloc (.cells #[.int .i64 0,.nilFunc,.nilFunc] 147)) wq.heap.size 147 [.int .i64 0,.nilFunc,.nilFunc]:=RowAt.new _ _ _
   have hk:=HK.out _ _ wq.heap.size (HF.out.alloc (i:=5) (v:=.pointer (some ⟨wq.heap.size,0,none⟩)) HN.out (by show 5 < 6;decide) (by decide) (J:=(fun z al bb W=>Ext w W ∧ RowAt W y0 98 (nmL vs m av) ∧ RowAt W y1 75 [.int .i64 (k:Int),.int .i64 n,.int .i64 a.var,.int .i64 a.id,.int .i64 b.var,.int .i64 b.id] ∧ RowAt W y2 88 [.int .i64 0,.bool false,.string ⟨#[]⟩,.string ⟨#[]⟩,.string ⟨#[]⟩,.bool false,.string ⟨#[]⟩] ∧ (bb = true → al = true) ∧ (al = true → y2 < z ∧ y0 < z ∧ y1 < z ∧ RowAt W z 147 (if bb = true then [.int .i64 ((k:Int) + 1),.func (.func f1) #[] #[],.func (.func f2) #[] #[]] else [.int .i64 0,.nilFunc,.nilFunc]))) wq.heap.size true) ⟨hI.1.trans hx2,hI.2.1.ext hx2,hI.2.2.1.ext hx2,hI.2.2.2.1.ext hx2,fun _=>rfl,fun _=>⟨hI.2.2.2.1.lt,hI.2.1.lt,hI.2.2.1.lt,by rw [h6,if_neg (by decide)];exact hr2⟩⟩)
   simp only [puts,Act.put,qA,qB,qC] at hk
   go_simp
   exact hk
  ·obtain rfl:=HF.out.got (HD.out 4 (by decide)) (i:=4) rfl rfl
   obtain rfl:=HF.out.got (HD.out 5 (by decide)) (i:=5) rfl rfl
   have h5:=HD.out 5 (by decide)
   obtain ⟨a1,a2,a3,a4⟩:=hI.2.2.2.2.2 h5
   rw [HN.out,if_neg (by decide)] at a4
   rw [if_pos (show Region.wanted _ _ = true from rfl)]
   refine wp_store_row _ _ _ rfl z #[.int .i64 ((k:Int) + 1),.func (.func f1) #[] #[],.func (.func f2) #[] #[]] rfl rfl _ _ a4 (by kernel_rfl) rfl (by simp [Value.oneCell']) ?_
   have hk:=HK.out _ _ z (HF.out.fin (Nat.le_refl _) ⟨show Ext w (wq.setRow z #[.int .i64 ((k:Int) + 1),.func (.func f1) #[] #[],.func (.func f2) #[] #[]]) from below_setRow hI.1 (by have:=HY.out;omega) _,(setRow_other _ _ _ _ (by omega)).trans hI.2.1,(setRow_other _ _ _ _ (by omega)).trans hI.2.2.1,(setRow_other _ _ _ _ (by omega)).trans hI.2.2.2.1,fun _=>h5,fun _=>⟨a1,a2,a3,by rw [if_pos rfl];exact a4.setRow _⟩⟩)
   simp only [puts,Act.put,qA,qB,qC] at hk
   exact hk
 ·rintro S us wq hS ⟨z,hF⟩
  obtain ⟨u0,u1,u2,u3,u4,u5,rfl⟩:=len6 hF.len rfl
  obtain rfl:=hF.got (hS 0 (by decide)) (i:=0) rfl rfl
  obtain rfl:=hF.got (hS 1 (by decide)) (i:=1) rfl rfl
  obtain rfl:=hF.got (hS 2 (by decide)) (i:=2) rfl rfl
  obtain rfl:=hF.got (hS 3 (by decide)) (i:=3) rfl rfl
  obtain rfl:=hF.got (hS 4 (by decide)) (i:=4) rfl rfl
  obtain rfl:=hF.got (hS 5 (by decide)) (i:=5) rfl rfl
  have hI:=hF.inv
  rw [hS 6 (by decide),hS 5 (by decide)] at hI
  clear hF hS
  simp only [puts,Act.put,qA,qB,qC]
  obtain ⟨hX5,h0,h1,h2,_,h5⟩:=hI
  obtain ⟨a1,_,_,a5⟩:=h5 rfl
  rw [if_pos rfl] at a5
  have HX5:=hid hX5
  have G0:=hid h0
  have G1:=hid h1
  have G2:=hid h2
  have HZZ:=hid (show RowAt wq z 147 [.int .i64 ((k:Int) + 1),.func (.func f1) #[] #[],.func (.func f2) #[] #[]] from a5)
  have HLT:=hid a1
  clear hX5 h0 h1 h2 h5 a1 a5 HX H0 H1 H2
  have c2:=HZZ.out.cell (i:=2) rfl
  go_upto_region 3 with fail
  apply wp_region_lit
  iterate 2 (refine wpList_plain rfl fun Y y'=>?_;go_simp;refine y' _ _ ?_;clear y' Y)
  refine plain_load rfl _ _ rfl y0 rfl _ _ (G0.out) Tryz.underlying98 rfl (by kernel_rfl) ?_
  go_simp
  refine plain_load rfl _ _ rfl y1 rfl _ _ (G1.out) Tryz.underlying75 rfl (by kernel_rfl) ?_
  go_simp
  refine wpList_plain rfl fun K1 hK1=>?_
  go_simp
  refine (HC.out wq HX5.out).mono ?_
  rintro e w2 ⟨rfl,hxw2⟩
  rcases hrx:r with _ | x
  ·unfold outE unknE
   go_wp2_with fail
   exact ⟨rfl,HN0.out hrx,HX5.out.trans hxw2⟩
  unfold outE
  dsimp only
  go_simp
  refine hK1 _ _ ?_
  clear hK1 K1
  have HXw2:=hid (HX5.out.trans hxw2)
  have K2:=hid (G2.out.ext hxw2)
  have KZ:=hid (HZZ.out.ext hxw2)
  clear hxw2 c2 HX5 G0 G1 G2 HZZ
  (refine wpList_plain rfl fun Y y'=>?_;go_simp;refine y' _ _ ?_;clear y' Y)
  have hax:=Ext.alloc w2 (.cells #[.int .i64 0,.bool false,.string ⟨#[]⟩,.string ⟨#[]⟩,.string ⟨#[]⟩,.bool false,.string ⟨#[]⟩] 88)
  have har:RowAt (w2.alloc (.cells #[.int .i64 0,.bool false,.string ⟨#[]⟩,.string ⟨#[]⟩,.string ⟨#[]⟩,.bool false,.string ⟨#[]⟩] 88)) w2.heap.size 88 (#[.int .i64 0,.bool false,.string ⟨#[]⟩,.string ⟨#[]⟩,.string ⟨#[]⟩,.bool false,.string ⟨#[]⟩]).toList:=RowAt.new _ _ _
  refine plain_store rfl _ _ _ rfl w2.heap.size (atCells x) rfl rfl har (by kernel_rfl) rfl ((by simp [atCells,Value.oneCell'])) ?_
  have hex:Ext w2 ((w2.alloc (.cells #[.int .i64 0,.bool false,.string ⟨#[]⟩,.string ⟨#[]⟩,.string ⟨#[]⟩,.bool false,.string ⟨#[]⟩] 88)).setRow w2.heap.size (atCells x).toArray):=below_setRow hax (Nat.le_refl _) _
  have HEw3:=hid hex
  have HRt:=hid (har.setRow (atCells x))
  clear hax har hex
  go_simp
  generalize (w2.alloc (.cells #[.int .i64 0,.bool false,.string ⟨#[]⟩,.string ⟨#[]⟩,.string ⟨#[]⟩,.bool false,.string ⟨#[]⟩] 88)).setRow w2.heap.size (atCells x).toArray = w3 at *
  obtain ⟨t,hst⟩:∃ x,w2.heap.size = x:=⟨_,rfl⟩
  rw [hst] at HRt
  simp only [hst]
  have HSt:=hid hst
  clear hst
  apply wpList_nil
  have HX3:=hid (HXw2.out.trans HEw3.out)
  have HTT:=hid (show y2 < t by have:=K2.out.lt;have:=HSt.out;omega)
  replace K2:=hid (K2.out.ext HEw3.out)
  replace KZ:=hid (KZ.out.ext HEw3.out)
  clear HXw2 HEw3 HSt
  have c0:=KZ.out.cell (i:=0) rfl
  have f0:=HRt.out.cell (i:=0) rfl
  have ff:=HRt.out.frozen 0
  go_upto_region 5 with fail
  have HZ6:Hid (RowAt (w3.setCell ⟨t,0,none⟩ (.int .i64 ((k:Int) + 1))) t 88 [.int .i64 ((k:Int) + 1),.bool x.fk,.string x.fn,.string x.name,.string x.value,.bool x.tk,.string x.tn]):=hid (HRt.out.set 0 (.int .i64 ((k:Int) + 1)))
  have HY6:=hid (K2.out.kept (grown_set w3 t 0 (.int .i64 ((k:Int) + 1))) (fun e=>by have:=Option.some.inj e;have:=HTT.out;omega))
  have HX6:=hid (Ext.set_of HX3.out (show w.heap.size ≤ t by have:=HTT.out;have:=HY.out;omega) (o:=0) (.int .i64 ((k:Int) + 1)))
  clear c0 f0 ff KZ K2 HX3
  generalize w3.setCell ⟨t,0,none⟩ (.int .i64 ((k:Int) + 1)) = w6 at *
  apply wp_region_lit
  refine plain_load rfl _ _ rfl t rfl _ _ (HZ6.out) Tryz.underlying88 rfl (by kernel_rfl) ?_
  go_simp
  refine plain_store rfl _ _ _ rfl y2 ([.int .i64 ((k:Int) + 1),.bool x.fk,.string x.fn,.string x.name,.string x.value,.bool x.tk,.string x.tn]) rfl rfl (HY6.out) (by kernel_rfl) rfl ((by simp [Value.oneCell'])) ?_
  have HRR:=hid ((HY6.out).setRow ([.int .i64 ((k:Int) + 1),.bool x.fk,.string x.fn,.string x.name,.string x.value,.bool x.tk,.string x.tn]))
  have HXX:=hid (show Ext w ((w6).setRow y2 ([.int .i64 ((k:Int) + 1),.bool x.fk,.string x.fn,.string x.name,.string x.value,.bool x.tk,.string x.tn]).toArray) from below_setRow (HX6.out) ((by have:=HY.out;omega)) _)
  go_simp
  apply wpList_nil
  go_wp2_with fail
  exact bodyPost_ret (results_row0 rfl rfl HRR.out Tryz.underlying88 rfl (by kernel_rfl)) rfl (⟨HX0.out x hrx,HXX.out⟩)
theorem atmF_out {D:Dic} {V:List ByteArray} {b:Bnd} (h:¬ (0 ≤ b.kind ∧ b.kind ≤ 3)):atmF D V b = none:=by
 unfold atmF
 rw [if_neg (by omega),if_neg (by omega),if_neg (by omega),if_neg (by omega)]
theorem natomN_any (vs:Nat → Value × Value) (m:Nat) (av:Value) (D:Dic) (V:List ByteArray) (w:World) (b:Bnd) (hn:¬ (0 ≤ b.kind ∧ b.kind ≤ 3)) :
 Calls Tryz.prog 61 #[nmV vs m av,bndV b] w fun e w'=>e = outE (atmF D V b) atV ∧ Ext w w':=by
 rw [show outE (atmF D V b) atV = unknE by rw [atmF_out hn];rfl]
 obtain ⟨k,n,a,b⟩:=b
 dsimp only at hn
 obtain ⟨b1,hb1⟩:∃ b,decide (0 ≤ k) = b:=⟨_,rfl⟩
 obtain ⟨b2,hb2⟩:∃ b,decide (k ≤ 3) = b:=⟨_,rfl⟩
 have HNO:Hid (¬ (b1 = true ∧ b2 = true)):=hid (by
  rintro ⟨rfl,rfl⟩
  exact hn ⟨of_decide_eq_true hb1,of_decide_eq_true hb2⟩)
 clear hn
 unfold nmV bndV bndCells at *
 dsimp only at *
 cases b1
 case false =>
  have hbx:=boxes3 w (nmL vs m av) 98 ([.int .i64 k,.int .i64 n,.int .i64 a.var,.int .i64 a.id,.int .i64 b.var,.int .i64 b.id]) 75 ([.int .i64 0,.bool false,.string ⟨#[]⟩,.string ⟨#[]⟩,.string ⟨#[]⟩,.bool false,.string ⟨#[]⟩]) 88
  have HBX:=hid hbx
  clear hbx
  go_enter Tryz.func61,Tryz.ntmps61
  go_upto_region 1 with fail
  generalize ((w.alloc (.cells (nmL vs m av).toArray 98)).alloc (.cells ([.int .i64 k,.int .i64 n,.int .i64 a.var,.int .i64 a.id,.int .i64 b.var,.int .i64 b.id]).toArray 75)).alloc (.cells ([.int .i64 0,.bool false,.string ⟨#[]⟩,.string ⟨#[]⟩,.string ⟨#[]⟩,.bool false,.string ⟨#[]⟩]).toArray 88) = w1 at *
  obtain ⟨y0,hy0⟩:∃ x,w.heap.size = x:=⟨_,rfl⟩
  obtain ⟨y1,hy1⟩:∃ x,y0 + 1 = x:=⟨_,rfl⟩
  obtain ⟨y2,hy2⟩:∃ x,y1 + 1 = x:=⟨_,rfl⟩
  rw [hy0,hy1,hy2] at HBX
  simp only [hy0,hy1,hy2]
  have HN:=hid (show w.heap.size = y0 ∧ y0 + 1 = y1 ∧ y1 + 1 = y2 from ⟨hy0,hy1,hy2⟩)
  have HX:=hid HBX.out.1
  have H0:=hid HBX.out.2.1
  have H1:=hid HBX.out.2.2.1
  have H2:=hid HBX.out.2.2.2
  clear hy0 hy1 hy2 HBX
  have c0:=H1.out.cell (i:=0) rfl
  go_wp2_with fail
  refine (need_no _).mono ?_
  rintro e w3 ⟨rfl,rfl⟩
  unfold unknE
  dsimp only
  go_wp2_with fail
  exact ⟨rfl,rfl,HX.out⟩
 case true =>
  cases b2
  case true=>exact absurd ⟨rfl,rfl⟩ HNO.out
  case false =>
   have hbx:=boxes3 w (nmL vs m av) 98 ([.int .i64 k,.int .i64 n,.int .i64 a.var,.int .i64 a.id,.int .i64 b.var,.int .i64 b.id]) 75 ([.int .i64 0,.bool false,.string ⟨#[]⟩,.string ⟨#[]⟩,.string ⟨#[]⟩,.bool false,.string ⟨#[]⟩]) 88
   have HBX:=hid hbx
   clear hbx
   go_enter Tryz.func61,Tryz.ntmps61
   go_upto_region 1 with fail
   generalize ((w.alloc (.cells (nmL vs m av).toArray 98)).alloc (.cells ([.int .i64 k,.int .i64 n,.int .i64 a.var,.int .i64 a.id,.int .i64 b.var,.int .i64 b.id]).toArray 75)).alloc (.cells ([.int .i64 0,.bool false,.string ⟨#[]⟩,.string ⟨#[]⟩,.string ⟨#[]⟩,.bool false,.string ⟨#[]⟩]).toArray 88) = w1 at *
   obtain ⟨y0,hy0⟩:∃ x,w.heap.size = x:=⟨_,rfl⟩
   obtain ⟨y1,hy1⟩:∃ x,y0 + 1 = x:=⟨_,rfl⟩
   obtain ⟨y2,hy2⟩:∃ x,y1 + 1 = x:=⟨_,rfl⟩
   rw [hy0,hy1,hy2] at HBX
   simp only [hy0,hy1,hy2]
   have HN:=hid (show w.heap.size = y0 ∧ y0 + 1 = y1 ∧ y1 + 1 = y2 from ⟨hy0,hy1,hy2⟩)
   have HX:=hid HBX.out.1
   have H0:=hid HBX.out.2.1
   have H1:=hid HBX.out.2.2.1
   have H2:=hid HBX.out.2.2.2
   clear hy0 hy1 hy2 HBX
   have c0:=H1.out.cell (i:=0) rfl
   go_wp2_with fail
   refine (need_no _).mono ?_
   rintro e w3 ⟨rfl,rfl⟩
   unfold unknE
   dsimp only
   go_wp2_with fail
   exact ⟨rfl,rfl,HX.out⟩
theorem natom_any (vs:Nat → Value × Value) (m:Nat) (a0:Option Addr) (c:Nat) (D:Dic) (V:List ByteArray) (w:World) (hV:DicV w vs D) (hS:DicS D) (h:DicOK D) (hA:Strs w (.slice a0 V.length c) V) (hl:V.length ≤ 1000000) (b:Bnd) :
 Calls Tryz.prog 61 #[nmV vs m (.slice a0 V.length c),bndV b] w fun e w'=>e = outE (atmF D V b) atV ∧ Ext w w':=by
 by_cases hk:0 ≤ b.kind ∧ b.kind ≤ 3
 ·obtain ⟨k,n,x,y⟩:=b
  dsimp only at hk
  have hc:k = 0 ∨ k = 1 ∨ k = 2 ∨ k = 3:=by omega
  rcases hc with rfl | rfl | rfl | rfl
  ·exact natomK_any 0 (by omega) _ _ (fun _=>rfl) (fun _ _=>rfl) vs m _ D V w n x y fun w' hx=>way2_any vs m a0 c D V w' (hV.ext hx) hS h (Strs.ext hA hx) hl n x y
  ·exact natomK_any 1 (by omega) _ _ (fun _=>rfl) (fun _ _=>rfl) vs m _ D V w n x y fun w' hx=>way4_any vs m a0 c D V w' (hV.ext hx) hS h (Strs.ext hA hx) hl n x y
  ·exact natomK_any 2 (by omega) _ _ (fun _=>rfl) (fun _ _=>rfl) vs m _ D V w n x y fun w' hx=>way6_any vs m a0 c D V w' (hV.ext hx) hS h (Strs.ext hA hx) hl n x y
  ·exact natomK_any 3 (by omega) _ _ (fun _=>rfl) (fun _ _=>rfl) vs m _ D V w n x y fun w' hx=>way8_any vs m a0 c D V w' (hV.ext hx) hS h (Strs.ext hA hx) hl n x y
 ·exact natomN_any vs m _ D V w b hk
end

/- The places of variables, collected. -/
section
open Go.RowKit Go.Shelf Go.Sort
attribute [local go_sem] Oper.semAt_some wide_fn wide_depth
theorem places_any (vs:Nat → Value × Value) (m:Nat) (av:Value) (a:Option Addr) (n c:Nat) (w:World) :
 Calls Tryz.prog 45 #[nmV vs m av,.slice a n c] w fun e w'=>∃ b2 b3,e = .returned (.func (.func 86) #[] #[.pointer (some ⟨b3,0,none⟩),.pointer (some ⟨b2,0,none⟩)]) ∧
  RowAt w' b2 98 (nmL vs m av) ∧ RowAt w' b3 22 [.slice a n c] ∧ Ext w w':=by
 have hx0:=(Ext.alloc w (.cells (nmL vs m av).toArray 98)).trans (Ext.alloc (w.alloc (.cells (nmL vs m av).toArray 98)) (.cells #[.slice a n c] 22))
 have hb0:=(RowAt.new w 98 (nmL vs m av)).ext (Ext.alloc (w.alloc (.cells (nmL vs m av).toArray 98)) (.cells #[.slice a n c] 22))
 have hb1:RowAt ((w.alloc (.cells (nmL vs m av).toArray 98)).alloc (.cells #[.slice a n c] 22)) (w.heap.size + 1) 22 [.slice a n c]:=row_at (xs:=[.slice a n c]) (by simp)
 have HX:=hid hx0
 have HB:=hid hb0
 have HR:=hid hb1
 clear hx0 hb0 hb1
 unfold nmV
 go_enter Tryz.func45,Tryz.ntmps45
 go_wp2_with fail
 go_ret
 exact ⟨_,_,rfl,HB.out,HR.out,HX.out⟩
theorem places_iter (vs:Nat → Value × Value) (m:Nat) (av:Value) (V l:List ByteArray) (a:Option Addr) (c b2 b3:Nat) (w0:World) (h2:RowAt w0 b2 98 (nmL vs m av)) (h3:RowAt w0 b3 22 [.slice a l.length c])
 (hl:Strs w0 (.slice a l.length c) l) (hm:VarsAt w0 m V) (hd:Distinct V) (hin:∀ s ∈ l,s ∈ V) (hll:l.length ≤ 1000000) :
 IterI Tryz.prog 86 #[.pointer (some ⟨b3,0,none⟩),.pointer (some ⟨b2,0,none⟩)] (fun W=>Ext w0 W) l.length (fun k _ args=>∃ h:k < l.length,args = #[.int .i64 (findF V l[k])]):=by
 intro L W J Js hB hJ hJs hround h0
 refine callsIn_of_wp Tryz.func86 rfl trivial ?_
 simp only [Tryz.ntmps86,List.size_toArray,List.length_cons,List.length_nil,Nat.reduceAdd,Nat.reduceSub,Array.replicate_succ,Array.replicate_zero,List.push_toArray,List.append_toArray,List.nil_append,List.cons_append]
 have c3:=(h3.ext (hB 0 W h0)).cell (i:=0) rfl
 have HJ:=hid hJ
 have HB:=hid hB
 have H2:=hid h2
 have HL:=hid hl
 have HG:=hid (fun (k:Nat) (hk:k < l.length)=>show ∀ w',Ext w0 w' → (Instr.lookup 96 (.map (some m)) (.string l[k]) false).run Tryz.prog w' = .ok (.int .i64 (findF V l[k])) w' from by
  obtain ⟨i,hi,hrun⟩:=vars_get hm (hin _ (List.getElem_mem hk))
  rw [findF_at hd hi]
  exact hrun)
 clear hJ hB h2 h3 hl hm hd hin
 gi_wp2_with fail
 clear c3
 gi_loopw [8] (fun i wr=>∃ k:Nat,k ≤ l.length ∧ i = .int .i64 k ∧ J k wr) (fun i _=>l.length - (intOf i).toNat)
 case atStart=>exact ⟨0,Nat.zero_le _,rfl,h0⟩
 case round =>
  obtain ⟨k,hk,rfl,hj⟩:=hrel
  have hx:=HB.out k _ hj
  by_cases hlt:k < l.length
  ·obtain ⟨b,o,rfl,c0⟩:=(HL.out.ext hx).at_ hlt
   have d0:=(nm_map (H2.out.ext hx)).1
   have hrun:=HG.out k hlt wr hx
   obtain ⟨fn',tmps',assign',body',hy,hR⟩:=hround k #[.int .i64 (findF V l[k])] wr hlt hj ⟨hlt,rfl⟩
   generalize findF V l[k] = q at *
   generalize l[k] = s at *
   gi_wp2_with fail
   refine hR.mono ?_
   rintro e W3 (⟨rfl,hj3⟩ | ⟨rfl,hj3⟩)
   ·gi_wp2
    exact ⟨⟨k + 1,by omega,by first | rfl | go_num,hj3⟩,by first | (simp [intOf];omega) | (rw [show RowKit.wrap64 ((k:Int) + 1) = (k:Int) + 1 from by unfold RowKit.wrap64;omega];simp [intOf];omega)⟩
   ·gi_wp2
    exact bodyPost_ret (results_none rfl _ _ _) rfl ⟨⟨_,rfl⟩,.inr hj3⟩
  ·gi_wp2
   go_end0
   exact ⟨⟨_,rfl⟩,.inl (by rw [show l.length = k from by omega];exact hj)⟩
end

/- Numbers that an iterator tells, collected. -/
section
open Go.RowKit Go.Shelf Go.Sort
attribute [local go_sem] Oper.semAt_some wide_fn wide_depth
theorem elIn:ElT Tryz.prog 23 3 (.int .i64 0) 1 8:=⟨Tryz.underlying23,⟨_,rfl,by kernel_rfl,by kernel_rfl,by kernel_rfl⟩,rfl,by decide⟩
structure SeqN (w1:World) (ns:List Int) (k:Nat) (v:Value) (W:World):Prop where
 below:Below w1.heap.size w1 W
 box:RowAt W w1.heap.size 23 [v]
 own:W.ownsRow (w1.heap.size + 1) 3 1 v k ((ns.take k).map (Value.int .i64))
theorem SeqN.stab (w1:World) (ns:List Int) (k:Nat) (v:Value) (B:Nat) (hB:w1.heap.size ≤ B):Stab B (SeqN w1 ns k v):=fun W W' row h hg hr =>
 ⟨h.below.grown hg h.below.size (fun k e=>Nat.le_trans hB (hr k e).1),Stab.rowD B _ _ _ W W' row h.box hg hr,Stab.own B _ _ _ _ _ _ W W' row h.own hg hr⟩
theorem SeqN.ext {w1:World} {ns:List Int} {k:Nat} {v:Value} {W W':World} (h:SeqN w1 ns k v W) (hx:Ext W W'):SeqN w1 ns k v W':=⟨Below.ext h.below hx h.below.size,h.box.ext hx,own_ext h.own hx⟩
theorem SeqN.next {w1:World} {ns:List Int} {k:Nat} {v v4:Value} {W2 w4:World} {o:Obj} {B:Nat} {n:Int} (h:SeqN w1 ns k v W2) (hg:(W2.alloc o).grownBy w4 v.ownBlock)
 (hown:w4.ownsRow (w1.heap.size + 1) 3 1 v4 (k + 1) ((ns.take k).map (Value.int .i64) ++ [.int .i64 n])) (hkk:ns.take (k + 1) = ns.take k ++ [n]) :
 KeepsFrom B W2 (w4.setCell ⟨w1.heap.size,0,none⟩ v4) ∧ ∃ v,SeqN w1 ns (k + 1) v (w4.setCell ⟨w1.heap.size,0,none⟩ v4):=by
 have h1:=h.ext (Ext.alloc W2 o)
 have hne:∀ g,g < w1.heap.size + 1 → v.ownBlock ≠ some g:=fun g hg e=>by have:=(own_lt h1.own e).1;omega
 have hout:=h1.box.kept hg (hne _ (by omega))
 have hbel:Below w1.heap.size w1 w4:=h1.below.grown hg h1.below.size (fun r hr=>by have:=(own_lt h1.own hr).1;omega)
 refine ⟨((keeps_ext B (Ext.alloc W2 o)).trans (keeps_own h1.own hg)).trans (keeps_set B hout.facts1.1 v4),v4,?_,?_,?_⟩
 ·exact hbel.setCell (p:=⟨w1.heap.size,0,none⟩) (Nat.le_refl _) _
 ·exact hout.set 0 v4
 ·rw [hkk,List.map_append]
  exact own_kept hown (grown_set w4 _ 0 v4) (fun r hr=>by cases hr;omega)
theorem seqN_any {gf:Nat} {lb:Array Value} (ns:List Int) (w1:World)
 (hit:IterI Tryz.prog gf lb (fun W=>Ext w1 W) ns.length (fun k _ args=>∃ h:k < ns.length,args = #[.int .i64 ns[k]]))
 (eg:∀ args w,(callFunc gf args).run Tryz.prog w = .ok (.enter gf args) w) (hn:ns.length ≤ 1000000) :
 Calls Tryz.prog 85 #[.slice none 0 0,.func (.func gf) #[] lb] w1 fun e w'=>∃ v,e = .returned v ∧ w'.ownsRow w1.heap.size 3 1 v ns.length (ns.map (Value.int .i64)) ∧ Ext w1 w':=by
 refine calls_of_wp_marks Tryz.func85 rfl ?_
 simp only [Tryz.ntmps85,List.size_toArray,List.length_cons,List.length_nil,Nat.reduceAdd,Nat.reduceSub,Array.replicate_succ,Array.replicate_zero,List.push_toArray,List.append_toArray,List.nil_append,List.cons_append]
 have hI0:SeqN w1 ns 0 (.slice none 0 0) (w1.alloc (.cells #[.slice none 0 0] 23)):=⟨Ext.alloc _ _,RowAt.new w1 _ [.slice none 0 0],World.ownsRow_nil _ _ _ _⟩
 have hsz:(w1.alloc (.cells #[.slice none 0 0] 23)).heap.size = w1.heap.size + 1:=by simp
 have HI0:=hid hI0
 have HSZ:=hid hsz
 have HIT:=hid hit
 clear hI0 hsz hit
 go_wp2_with fail
 generalize w1.alloc (.cells #[.slice none 0 0] 23) = wa at *
 have hle:w1.heap.size ≤ wa.heap.size:=by have:=HSZ.out;omega
 refine wp_overI rfl eg HIT.out (by rintro k W args ⟨_,rfl⟩;rfl) (fun k args=>Stab.pure _ _) (fun k W=>∃ v,SeqN w1 ns k v W) (fun _ _=>False) (fun k=>Stab.ex fun v=>SeqN.stab w1 ns k v _ hle) (fun c=>Stab.pure _ _) (fun k W ⟨v,h⟩=>h.below) ⟨_,HI0.out⟩ ?_ ?_ ?_
 ·rintro k args W L hk hL ⟨v,hI⟩ ⟨_,rfl⟩
  gi_wp2
  refine ⟨keeps_ext _ (Ext.refl _),⟨v,hI⟩,⟨hk,by first | rfl | trivial⟩,?_⟩
  rintro W2 - ⟨v2,hI2⟩ -
  clear hI v
  have hkk:=take_snoc ns k hk
  generalize ns[k] = s at *
  have hown:=hI2.own
  have hlt2:=hI2.box.lt
  obtain ⟨c0,f0⟩:=hI2.box.facts1
  have hx:=Ext.alloc W2 (.cells #[.int .i64 s] 3)
  have HI:=hid hI2
  have HKK:=hid hkk
  clear hI2 hkk
  gi_wp2_with (gi_at_builtin;refine wpListIn_append_sl _ rfl _ _ 23 rfl elIn rfl (own_ext hown hx) rfl (Sl.new _ _ _ 1 1 (Nat.le_refl _) ?_) rfl ?_ ?_ ?_ ?_ ?_)
  ·unfold maxLen;omega
  ·exact rfl
  ·omega
  ·unfold maxLen;omega
  ·have:=hx.size;omega
  intro v4 w4 hown4 hB4 hg4 hat4
  obtain ⟨a4,c4,rfl⟩:=own_vw hown4
  have hne:v2.ownBlock ≠ some w1.heap.size:=fun e=>by have:=(own_lt hown e).1;omega
  have hrow:=(HI.out.box.ext hx).kept hg4 hne
  obtain ⟨c1,f1⟩:=hrow.facts1
  have HG:=hid hg4
  have HO:=hid hown4
  clear hg4 hown4 hB4 hat4 hrow hown hx c0 f0
  gi_wp2
  exact SeqN.next HI.out HG.out (by have h:=HO.out;rwa [← List.map_take] at h) HKK.out
 ·rintro D W hD ⟨v,hI⟩ hdf
  obtain ⟨c0,f0⟩:=hI.box.facts1
  have hown:=hI.own
  rw [List.take_of_length_le (Nat.le_refl _)] at hown
  have HO:=hid (own_mark (own_base hown (show w1.heap.size ≤ w1.heap.size + 1 by omega)) hdf)
  have HB:=hid (below_mark hI.below (show w1.heap.size ≤ D by omega))
  clear hown hI
  go_wp2
  exact leave_marked hdf (fun _=>results_tmp rfl _ _ _) ⟨v,rfl,HO.out,HB.out⟩
 ·rintro D c W hD h
  exact h.elim
theorem collect_any (vs:Nat → Value × Value) (m:Nat) (av:Value) (V l:List ByteArray) (a:Option Addr) (c b2 b3:Nat) (w:World) (h2:RowAt w b2 98 (nmL vs m av)) (h3:RowAt w b3 22 [.slice a l.length c])
 (hl:Strs w (.slice a l.length c) l) (hm:VarsAt w m V) (hd:Distinct V) (hin:∀ s ∈ l,s ∈ V) (hll:l.length ≤ 1000000) :
 Calls Tryz.prog 44 #[.func (.func 86) #[] #[.pointer (some ⟨b3,0,none⟩),.pointer (some ⟨b2,0,none⟩)]] w fun e w'=>∃ v,e = .returned v ∧ w'.ownsRow w.heap.size 3 1 v (l.map (findF V)).length ((l.map (findF V)).map (Value.int .i64)) ∧ Ext w w':=by
 have hit:IterI Tryz.prog 86 #[.pointer (some ⟨b3,0,none⟩),.pointer (some ⟨b2,0,none⟩)] (fun W=>Ext w W) (l.map (findF V)).length (fun k _ args=>∃ h:k < (l.map (findF V)).length,args = #[.int .i64 (l.map (findF V))[k]]):=by
  have h:=places_iter vs m av V l a c b2 b3 w h2 h3 hl hm hd hin hll
  have hlen:(l.map (findF V)).length = l.length:=List.length_map _
  intro L W J Js g1 g2 g3 g4 g5
  rw [hlen]
  refine h L W J Js g1 g2 g3 (fun k args W hk hj he=>g4 k args W (by rw [hlen];exact hk) hj ?_) g5
  obtain ⟨h',rfl⟩:=he
  exact ⟨by rw [hlen];exact hk,by simp⟩
 have HS:=hid (seqN_any (l.map (findF V)) w hit (enters_of Tryz.func86 (by kernel_rfl) rfl) (by rw [List.length_map];exact hll))
 generalize l.map (findF V) = ns at *
 clear hit h2 h3 hl hm hd hin
 go_enter Tryz.func44,Tryz.ntmps44
 go_wp2_with fail
 refine HS.out.mono ?_
 rintro e w2 ⟨v,rfl,ho,hx⟩
 have HO:=hid ho
 have HX:=hid hx
 clear ho hx HS
 obtain ⟨a2,c2,rfl⟩:=own_vw HO.out
 go_wp2_with fail
 go_ret
 exact ⟨_,rfl,HO.out,HX.out⟩
end

end Go.Proofs.YtkmbnghghbfkdaaGreat
