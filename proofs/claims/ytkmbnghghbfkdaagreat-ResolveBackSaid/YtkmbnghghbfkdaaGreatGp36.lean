/- The variables of each atom. -/
import Derived.Test.YtkmbnghghbfkdaaGreatGp35
import Derived.Test.YtkmbnghghbfkdaaGreatGp11
import Derived.Test.YtkmbnghghbfkdaaGreatGp12
import Derived.Test.YtkmbnghghbfkdaaGreatGp22
import Derived.Test.YtkmbnghghbfkdaaGreatGp16
set_option linter.unusedSimpArgs false
set_option linter.unusedVariables false
set_option maxHeartbeats 2000000
set_option maxRecDepth 100000
namespace Go.Proofs.YtkmbnghghbfkdaaGreat
open Go.Lib (hid)

section
open Go.RowKit Go.Shelf Go.Sort
attribute [local go_sem] Oper.semAt_some wide_fn wide_depth
def IRows (B:Nat) (w:World) (v:Value) (xs:List (Value × List Int)):Prop:=w.ownsRow B 23 1 v xs.length (xs.map Prod.fst) ∧ ∀ x ∈ xs,w.ownsRow B 3 1 x.1 x.2.length (x.2.map (Value.int .i64))
theorem IRows.none (B:Nat) (w:World):IRows B w (.slice Option.none 0 0) []:=⟨World.ownsRow_nil _ _ _ _,fun x hx=>by cases hx⟩
theorem IRows.ext {B:Nat} {w w':World} {v:Value} {xs:List (Value × List Int)} (h:IRows B w v xs) (hx:Ext w w'):IRows B w' v xs:=⟨own_ext h.1 hx,fun x hm=>own_ext (h.2 x hm) hx⟩
theorem IRows.snoc {B:Nat} {w w':World} {v v':Value} {ys:List (Value × List Int)} {u:Value} {s:List Int} (h1:w.ownsRow B 23 1 v ys.length (ys.map Prod.fst)) (h2:∀ x ∈ ys,w.ownsRow B 3 1 x.1 x.2.length (x.2.map (Value.int .i64))) (hu:w.ownsRow B 3 1 u s.length (s.map (Value.int .i64)))
 (h3:w'.ownsRow B 23 1 v' (ys.length + 1) (ys.map Prod.fst ++ [u])) (hg:w.grownBy w' v.ownBlock):IRows B w' v' (ys ++ [(u,s)]):=by
 refine ⟨by rw [List.length_append,List.map_append];exact h3,fun x hx=>?_⟩
 rcases List.mem_append.1 hx with hx | hx
 ·exact own_apart (h2 x hx) hg (fun b hb=>own_ne_own (h2 x hx) h1 (by decide) b hb)
 ·rw [List.mem_singleton.1 hx]
  exact own_apart hu hg (fun b hb=>own_ne_own hu h1 (by decide) b hb)
theorem elIRow:ElT Tryz.prog 68 23 (.slice none 0 0) 1 24:=⟨Tryz.underlying68,⟨_,rfl,by kernel_rfl,by kernel_rfl,by kernel_rfl⟩,rfl,by decide⟩
def edgeF (b:Bnd):List Int:=keepL (Lib.compact [min b.a.var b.b.var,max b.a.var b.b.var])
theorem compact_len (l:List Int):(Lib.compact l).length ≤ l.length:=by
 unfold Lib.compact Lib.compactUpTo
 rw [List.length_map]
 exact Nat.le_trans (List.length_filter_le _ _) (by simp)
def EdgesQ (w:World) (G:Gol) (e:Ending) (w':World):Prop:=∃ v xs,e = .returned v ∧ xs.map Prod.snd = G.atoms.map edgeF ∧ IRows w.heap.size w' v xs ∧ Ext w w'
set_option maxHeartbeats 4000000 in
theorem edges_any (G:Gol) (gv:Value) (w:World) (hG:GolAt w gv G) (hl:G.atoms.length ≤ 100000) :
 Calls Tryz.prog 29 #[gv] w (EdgesQ w G):=by
 obtain ⟨vv,av,rv,hv',rfl,gV,gA,gR,gH⟩:=hG
 obtain ⟨aa,ac,rfl,_,_⟩:=gA.shape
 have HA:=hid gA
 have H0:=hid (RowAt.new w 39 (golC vv (.slice aa G.atoms.length ac) rv hv' G))
 have HX:=hid (Ext.alloc w (.cells (golC vv (.slice aa G.atoms.length ac) rv hv' G).toArray 39))
 have HL:=hid hl
 clear gV gA gR gH hl
 unfold golV
 go_enter Tryz.func29,Tryz.ntmps29
 go_upto_region 1 with fail
 generalize w.alloc (.cells (golC vv (.slice aa G.atoms.length ac) rv hv' G).toArray 39) = w1 at *
 obtain ⟨y0,hy0⟩:∃ x,w.heap.size = x:=⟨_,rfl⟩
 have HY:=hid hy0
 rw [hy0] at H0
 simp only [hy0]
 clear hy0
 have c1:=H0.out.cell (i:=1) rfl
 go_wp2_with fail
 clear c1
 go_loopg [3,11] G.atoms.length (fun g out i wr=>∃ (k:Nat) (ys:List (Value × List Int)) (oa:Option Addr) (oc:Nat),k ≤ G.atoms.length ∧ g = G.atoms.length - k ∧ i = .int .i64 k ∧ out = .slice oa k oc ∧ Hid (ys.length = k ∧ ys.map Prod.snd = (G.atoms.take k).map edgeF) ∧ Hid (Ext w1 wr) ∧ Hid (IRows w1.heap.size wr (.slice oa k oc) ys))
 case atStart=>exact ⟨0,[],none,0,Nat.zero_le _,rfl,rfl,rfl,hid ⟨rfl,rfl⟩,hid (Ext.refl _),hid (IRows.none _ _)⟩
 case round =>
  obtain ⟨k,ys,oa,oc,hk,hg,rfl,rfl,HI,HXR,HO⟩:=hrel
  have Hg:=hid hg
  clear hg
  have hk6:k ≤ 100000:=by have:=HL.out;omega
  by_cases hlt:k < G.atoms.length
  ·obtain ⟨b,o,rfl,c0,c1,c2,c3,c4,c5⟩:=(HA.out.ext (HX.out.trans HXR.out)).at_ hlt
   have hstep:∀ q,(ys ++ [(q,edgeF G.atoms[k])]).length = k + 1 ∧ (ys ++ [(q,edgeF G.atoms[k])]).map Prod.snd = (G.atoms.take (k + 1)).map edgeF:=by
    intro q
    obtain ⟨i1,i2⟩:=HI.out
    rw [List.take_succ_eq_append_getElem hlt]
    exact ⟨by simp [i1],by rw [List.map_append,List.map_append,i2];rfl⟩
   generalize G.atoms[k] = x at *
   have HST:=hid hstep
   clear hstep
   obtain ⟨L0,hL0⟩:∃ L,Lib.compact [min x.a.var x.b.var,max x.a.var x.b.var] = L:=⟨_,rfl⟩
   obtain ⟨L,hL⟩:∃ l,edgeF x = l:=⟨_,rfl⟩
   have hLL:L0.length ≤ 2 ∧ keepL L0 = L:=⟨by rw [← hL0];exact compact_len _,by rw [← hL,← hL0];rfl⟩
   have HLL:=hid hLL
   have HL0:=hid hL0
   have hL2:L.length ≤ 2:=by rw [← hLL.2];exact Nat.le_trans (List.length_filter_le _ _) hLL.1
   rw [hL] at HST
   clear hL hLL hL0
   obtain ⟨kd,nn,⟨a1,a2⟩,⟨b1,b2⟩⟩:=x
   dsimp only at c0 c1 c2 c3 c4 c5 HL0
   have HAX:=hid (Ext.alloc wr (.cells #[.int .i64 kd,.int .i64 nn,.int .i64 a1,.int .i64 a2,.int .i64 b1,.int .i64 b2] 75))
   have HAB:=hid (RowAt.new wr 75 [.int .i64 kd,.int .i64 nn,.int .i64 a1,.int .i64 a2,.int .i64 b1,.int .i64 b2])
   go_upto_region 5 with fail
   replace HAB:Hid (RowAt (wr.alloc (.cells #[.int .i64 kd,.int .i64 nn,.int .i64 a1,.int .i64 a2,.int .i64 b1,.int .i64 b2] 75)) wr.heap.size 75 [.int .i64 kd,.int .i64 nn,.int .i64 a1,.int .i64 a2,.int .i64 b1,.int .i64 b2]):=HAB
   generalize wr.alloc (.cells #[.int .i64 kd,.int .i64 nn,.int .i64 a1,.int .i64 a2,.int .i64 b1,.int .i64 b2] 75) = wb at *
   obtain ⟨t,ht⟩:∃ t,wr.heap.size = t:=⟨_,rfl⟩
   rw [ht] at HAB
   simp only [ht]
   clear ht c0 c1 c2 c3 c4 c5
   have d2:=HAB.out.cell (i:=2) rfl
   have d4:=HAB.out.cell (i:=4) rfl
   have HX2:=hid (HXR.out.trans HAX.out)
   have HO2:=hid (HO.out.ext HAX.out)
   have HM0:=hid (Ext.alloc wb (.cells #[.int .i64 (min a1 b1),.int .i64 (max a1 b1)] 3))
   have HM1:=hid (RowAt.new wb 3 [.int .i64 (min a1 b1),.int .i64 (max a1 b1)])
   clear HAX HXR HO
   go_upto_region 6 with fail
   generalize wb.alloc (.cells #[.int .i64 (min a1 b1),.int .i64 (max a1 b1)] 3) = wm at *
   obtain ⟨g,hg0⟩:∃ g,wb.heap.size = g:=⟨_,rfl⟩
   rw [hg0] at HM1
   simp only [hg0]
   have HGB:=hid hg0
   clear hg0 d2 d4 HAB
   have hcp:=compact_any g [min a1 b1,max a1 b1] 2 wm HM1.out (by simp) (by simp)
   have HCP:=hid hcp
   rw [HL0.out] at HCP
   clear hcp
   apply wp_region_lit
   (refine wpList_plain rfl fun Y y'=>?_;go_simp;refine y' _ _ ?_;clear y' Y)
   refine wpList_plain rfl fun K1 hK1=>?_
   go_simp
   refine HCP.out.mono ?_;rintro e wc ⟨rfl,⟨z1,hrc⟩,hgc⟩
   go_simp
   refine hK1 _ _ ?_
   clear hK1 K1
   have hdl:=del_any g L0 z1 2 wc hrc HLL.out.1 (by have:=HLL.out.1;omega)
   rw [HLL.out.2] at hdl
   have HDL:=hid hdl
   have HGC:=hid hgc
   clear hdl hrc hgc HCP
   refine wpList_plain rfl fun K1 hK1=>?_
   go_simp
   refine HDL.out.mono ?_;rintro e wd ⟨rfl,⟨z2,hrd⟩,hgd⟩
   go_simp
   refine hK1 _ _ ?_
   clear hK1 K1
   (refine wpList_plain rfl fun Y y'=>?_;go_simp;refine y' _ _ ?_;clear y' Y)
   apply wpList_nil
   have hxd:Ext wb wd:=by
    have h1:Below wb.heap.size wb wm:=HM0.out
    have h2:=below_grown h1 HGC.out h1.size (fun k hk=>by cases hk;exact Nat.le_of_eq HGB.out)
    exact below_grown h2 hgd h2.size (fun k hk=>by cases hk;exact Nat.le_of_eq HGB.out)
   have HXD:=hid hxd
   have hu:Sl wd (.slice (some ⟨g,0,none⟩) L.length 2) L.length (L.map (Value.int .i64)):=by
    refine ⟨_,2,rfl,hL2,by unfold maxLen;omega,fun _=>⟨g,0,rfl,fun i u hu=>?_⟩⟩
    rw [Nat.zero_add]
    exact hrd.cell (by rw [List.map_append,List.getElem?_append_left (List.getElem?_eq_some_iff.1 hu).1];exact hu)
   have hmk:=make_I L.length (by omega) wd
   have hrw:=RowAt.new wd 3 (List.replicate L.length (Value.int .i64 0))
   have hxe:=Ext.alloc wd (.cells (List.replicate L.length (Value.int .i64 0)).toArray 3)
   obtain ⟨we,hcy,hre,hge⟩:=run_copy_onto (P:=Tryz.prog) 23 23 3 elI (n:=L.length) (g:=wd.heap.size) (cap:=L.length) (u:=.slice (some ⟨g,0,none⟩) L.length 2) (xs:=L.map (Value.int .i64)) (Sl.ext hu hxe) (by simp) (ints_one _ _) hrw (by simp)
   have hxw:Ext wd we:=below_grown hxe hge hxe.size (fun k hk=>by cases hk;exact Nat.le_refl _)
   have HXE:=hid ((HX2.out.trans hxd).trans hxw)
   have HO4:=hid ((HO2.out.ext hxd).ext hxw)
   have HRE:=hid hre
   have HLO:=hid (show w1.heap.size ≤ wd.heap.size from (HX2.out.trans hxd).size)
   have hw8:=RowAt.lt hre
   clear hrd hgd HDL HGC HM0 HM1 HO2 HX2 hxd hu hrw hxe hge hxw hre HGB HXD
   generalize wd.alloc (.cells (List.replicate L.length (Value.int .i64 0)).toArray 3) = wx at hmk hcy
   go_upto_region 9 with fail
   clear hmk hcy
   generalize wd.heap.size = q at *
   have hrow0:=HO4.out.ext (Ext.alloc we (.cells #[.slice (some ⟨q,0,none⟩) L.length L.length] 23))
   have HRS:=hid hrow0
   have hrow1:(we.alloc (.cells #[.slice (some ⟨q,0,none⟩) L.length L.length] 23)).ownsRow w1.heap.size 23 1 (.slice oa k oc) k (ys.map Prod.fst):=by have:=hrow0.1;rwa [HI.out.1] at this
   have hkw:(we.alloc (.cells #[.slice (some ⟨q,0,none⟩) L.length L.length] 23)).ownsRow w1.heap.size 3 1 (.slice (some ⟨q,0,none⟩) L.length L.length) L.length (L.map (Value.int .i64)):=by
    have:=(HRE.out.ext (Ext.alloc we (.cells #[.slice (some ⟨q,0,none⟩) L.length L.length] 23))).own (base:=w1.heap.size) HLO.out (by rw [List.length_map];unfold maxLen;omega)
    rwa [List.length_map] at this
   have HKW:=hid hkw
   clear hrow0 hkw HO4
   have hk6:k ≤ 100000:=by have:=HL.out;omega
   go_wp2_with (at_builtin;refine wpList_append_sl _ rfl _ _ 68 rfl elIRow rfl hrow1 rfl (Sl.new _ #[.slice (some ⟨q,0,none⟩) L.length L.length] 23 1 1 (Nat.le_refl _) ?_) rfl ?_ ?_ ?_ ?_ ?_)
   ·unfold maxLen;omega
   ·rfl
   ·omega
   ·unfold maxLen;omega
   ·have:=HXE.out.size;simp;omega
   intro v' w6 how6 hb6 hg6 _
   obtain ⟨va,vc,rfl⟩:=own_vw how6
   have HX6:=hid (show Ext w1 w6 from Below.trans (HXE.out.trans (Ext.alloc _ _)) hb6)
   have HSN:=hid (IRows.snoc HRS.out.1 HRS.out.2 HKW.out (v':=.slice va (k + 1) vc) (w':=w6) (by rw [HI.out.1];exact how6) hg6)
   have HI6:=hid (HST.out (.slice (some ⟨q,0,none⟩) L.length L.length))
   clear how6 hb6 hg6 hrow1
   go_wp2_with fail
   go_roundg (G.atoms.length - (k + 1))
   case measure=>have:=Hg.out;omega
   case rel=>exact ⟨k + 1,_,va,vc,by omega,rfl,by first | rfl | go_num,rfl,HI6,HX6,HSN⟩
  ·have he:k = G.atoms.length:=by omega
   subst he
   have hres:=HI.out
   rw [List.take_length] at hres
   have HRES:=hid hres
   clear hres
   go_wp2_with fail
   go_ret
   exact ⟨_,ys,rfl,HRES.out.2,⟨own_base HO.out.1 HX.out.size,fun x hx=>own_base (HO.out.2 x hx) HX.out.size⟩,HX.out.trans HXR.out⟩
end

/- The law's own dictionaries and patterns: copies in memory of their own. -/
section
open Go.RowKit Go.Shelf Go.Sort
attribute [local go_sem] Oper.semAt_some wide_fn wide_depth
theorem ownDic18_any (vs:Nat → Value × Value) (D:Dic) (w:World) (hV:DicV w vs D) :
 Calls Tryz.prog 10 #[dv vs] w fun e w'=>∃ us,e = .returned (dv us) ∧ DicOwn w.heap.size w' us (cutD D) ∧ Ext w w':=by
 have hmo:Tryz.prog.follows .mixedOrders = true:=by kernel_rfl
 have hI0:LoI w D 0 vs ((w.alloc (.cells (dcells vs).toArray 28)).alloc (.cells (dcells noV).toArray 28)) :=
  ⟨(Ext.alloc _ _).trans (Ext.alloc _ _),row_at (by simp),(RowAt.new w _ (dcells vs)).ext (Ext.alloc _ _),fun i h=>by omega⟩
 have hdc:(dcells vs).toArray = #[(vs 0).1,(vs 0).2,(vs 1).1,(vs 1).2,(vs 2).1,(vs 2).2,(vs 3).1,(vs 3).2,(vs 4).1,(vs 4).2]:=rfl
 have hdn:(dcells noV).toArray = #[.slice none 0 0,.slice none 0 0,.slice none 0 0,.slice none 0 0,.slice none 0 0,.slice none 0 0,.slice none 0 0,.slice none 0 0,.slice none 0 0,.slice none 0 0]:=rfl
 unfold dv
 rw [hdc]
 simp only [hdc,hdn] at hI0
 have HIX:=hid (ix_any vs)
 have HV:=hid hV
 have HI0:=hid hI0
 clear hdc hdn hI0 hV
 go_enter Tryz.func10,Tryz.ntmps10
 go_upto_region 1 with fail
 replace HI0:=HI0.out
 generalize (w.alloc (.cells #[(vs 0).1,(vs 0).2,(vs 1).1,(vs 1).2,(vs 2).1,(vs 2).2,(vs 3).1,(vs 3).2,(vs 4).1,(vs 4).2] 28)).alloc (.cells #[.slice none 0 0,.slice none 0 0,.slice none 0 0,.slice none 0 0,.slice none 0 0,.slice none 0 0,.slice none 0 0,.slice none 0 0,.slice none 0 0,.slice none 0 0] 28) = w1 at *
 obtain ⟨c0,c1,c2,c3,c4,c5,c6,c7,c8,c9⟩:=HI0.d.facts10
 go_wp2_with fail
 clear c0 c1 c2 c3 c4 c5 c6 c7 c8 c9
 go_loopg [7] 5 (fun g i wr=>∃ (k:Nat) (ts:Nat → Value × Value),k ≤ 5 ∧ g = 5 - k ∧ i = .int .i64 k ∧ LoI w D k ts wr)
 case atStart=>exact ⟨0,_,Nat.zero_le _,rfl,rfl,HI0⟩
 case round =>
  obtain ⟨k,ts,hk,hg,rfl,hI⟩:=hrel
  have HI:=hid hI
  have Hg:=hid hg
  clear hI hg HI0
  by_cases hlt:k < 5
  ·obtain ⟨a,n,c,b,m,d,hv,hT,hSl⟩:=HV.out k hlt
   have hT:=(hT.ext HI.out.below)
   have hSl:=(hSl.ext HI.out.below)
   obtain ⟨_,_,e1,hc1,hc2⟩:=Sl.shape hT
   obtain ⟨_,_,e2,hd1,hd2⟩:=Sl.shape hSl
   simp only [Value.slice.injEq] at e1 e2
   obtain ⟨rfl,rfl,rfl⟩:=e1
   obtain ⟨rfl,rfl,rfl⟩:=e2
   have hix:=HIX.out k hlt
   rw [hv] at hix
   dsimp only at hix
   obtain ⟨mt,hmt⟩:∃ x:Int,min ((D k).1.length:Int) 129 = x:=⟨_,rfl⟩
   obtain ⟨ms,hms⟩:∃ x:Int,min ((D k).2.length:Int) 512 = x:=⟨_,rfl⟩
   obtain ⟨m0,m1,m2⟩:0 ≤ mt ∧ mt ≤ (c:Int) ∧ mt.toNat = min (D k).1.length 129:=by rw [← hmt];omega
   obtain ⟨s0,s1,s2⟩:0 ≤ ms ∧ ms ≤ (d:Int) ∧ ms.toNat = min (D k).2.length 512:=by rw [← hms];omega
   have hbx:RowAt (wr.alloc (.cells #[.slice a (D k).1.length c,.slice b (D k).2.length d] 25)) wr.heap.size 25 [.slice a (D k).1.length c,.slice b (D k).2.length d]:=RowAt.new _ _ _
   have HBX:=hid hbx
   have HT:=hid (((hT.take mt.toNat (by omega)).ext (Ext.alloc wr (.cells #[.slice a (D k).1.length c,.slice b (D k).2.length d] 25))))
   have HS:=hid (((hSl.take ms.toNat (by omega)).ext (Ext.alloc wr (.cells #[.slice a (D k).1.length c,.slice b (D k).2.length d] 25))))
   have HI2:=hid (HI.out.ext (Ext.alloc wr (.cells #[.slice a (D k).1.length c,.slice b (D k).2.length d] 25)))
   obtain ⟨T,hTe⟩:∃ T,(cutD D k).1 = T:=⟨_,rfl⟩
   obtain ⟨S,hSe⟩:∃ S,(cutD D k).2 = S:=⟨_,rfl⟩
   rw [show (D k).1.take mt.toNat = T from by rw [← hTe,m2];unfold cutD;simp;omega] at HT
   rw [show (D k).2.take ms.toNat = S from by rw [← hSe,s2];unfold cutD;simp;omega] at HS
   have hTl:T.length ≤ 129:=by rw [← hTe];unfold cutD;simp;omega
   have hSl':S.length ≤ 512:=by rw [← hSe];unfold cutD;simp;omega
   have HTe:=hid hTe
   have HSe:=hid hSe
   have hki:(k:Int) < 5:=by omega
   clear hT hSl hv hbx hTe hSe HIX m2 s2
   go_upto_region 4 with fail
   replace HBX:=HBX.out
   replace HI2:=HI2.out
   replace HT:=HT.out
   replace HS:=HS.out
   generalize wr.alloc (.cells #[.slice a (D k).1.length c,.slice b (D k).2.length d] 25) = wq at *
   have hbx:=HBX.ext (Ext.drewN wq 1)
   have p1:=hbx.facts2.1
   have p2:=hbx.facts2.2.1
   have HI3:=hid (HI2.ext (Ext.drewN wq 1))
   have HT3:=hid (HT.ext (Ext.drewN wq 1))
   have HS3:=hid (HS.ext (Ext.drewN wq 1))
   clear HBX HI2 HT HS hbx
   generalize (D k).1.length = n1 at *
   generalize (D k).2.length = m1 at *
   refine wp_region_gro groLaw [0,1,2,3,4,5,6,7,8,10,11,12,13,14,15,16,18,22,9,19,20,17,21,23,24,25] hmo (by kernel_rfl) rfl (by kernel_rfl) (fun _ _ _ _ _ h=>h) ?_
   replace p1:wq.drew.cell? _ = _:=p1
   replace p2:wq.drew.cell? _ = _:=p2
   repeat (first
    | (refine groL_pure rfl rfl ?_;intro K hK;go_simp;refine hK _ ?_;clear hK K)
    | (refine groL_read rfl rfl ?_;intro K S hS hK;go_simp;refine hK _ ?_;clear hK K hS S)
    | (refine groL_read rfl rfl ?_;intro K S hS hK;go_simp;refine ⟨hS _ ?_,hK _ ?_⟩;(clear hK K hS S;intro w' hx';have hce:=ext_some hx';go_simp);clear hK K hS S)
    | (refine groL_write rfl rfl ?_;intro K hK;go_simp;refine hK _ _ ?_;clear hK K))
   refine groL_grow rfl rfl ?_
   intro K hK
   go_simp
   (refine (cloneS _ T _ HT3.out (by omega)).mono ?_;rintro e wa ⟨ua,ca,rfl,hoa,hxa⟩)
   go_simp
   refine hK _ _ ⟨hxa,?_⟩
   clear hK K
   repeat (first
    | (refine groL_pure rfl rfl ?_;intro K hK;go_simp;refine hK _ ?_;clear hK K)
    | (refine groL_read rfl rfl ?_;intro K S hS hK;go_simp;refine hK _ ?_;clear hK K hS S)
    | (refine groL_read rfl rfl ?_;intro K S hS hK;go_simp;refine ⟨hS _ ?_,hK _ ?_⟩;(clear hK K hS S;intro w' hx';have hce:=ext_some hx';go_simp);clear hK K hS S)
    | (refine groL_write rfl rfl ?_;intro K hK;go_simp;refine hK _ _ ?_;clear hK K))
   refine groL_grow rfl rfl ?_
   intro K hK
   go_simp
   (refine (cloneI _ S _ (HS3.out.ext hxa) (by omega)).mono ?_;rintro e wb ⟨ub,cb,rfl,hob,hxb⟩)
   go_simp
   refine hK _ _ ⟨hxb,?_⟩
   clear hK K
   have hIb:=(HI3.out.ext hxa).ext hxb
   have r0:=hIb.d.cell (i:=k * 2) (dcells_at ts hlt).1
   have r1:=hIb.d.cell (i:=k * 2 + 1) (dcells_at ts hlt).2
   have f0:=hIb.d.frozen (k * 2)
   have f1:=hIb.d.frozen (k * 2 + 1)
   clear hIb
   repeat (first
    | (refine groL_pure rfl rfl ?_;intro K hK;go_simp;refine hK _ ?_;clear hK K)
    | (refine groL_read rfl rfl ?_;intro K S hS hK;go_simp;refine hK _ ?_;clear hK K hS S)
    | (refine groL_read rfl rfl ?_;intro K S hS hK;go_simp;refine ⟨hS _ ?_,hK _ ?_⟩;(clear hK K hS S;intro w' hx';have hce:=ext_some hx';go_simp);clear hK K hS S)
    | (refine groL_write rfl rfl ?_;intro K hK;go_simp;refine hK _ _ ?_;clear hK K))
   refine groL_nil ?_
   have HN:=hid (HI3.out.next hlt HTe.out HSe.out hxa hoa hxb hob)
   go_wp2_with fail
   go_roundg (5 - (k + 1))
   case measure=>have:=Hg.out;omega
   case rel=>exact ⟨k + 1,_,by omega,rfl,by go_num,HN.out⟩
  ·obtain rfl:k = 5:=by omega
   obtain ⟨A,hA1,hA2⟩:=heads (vs:=ts) (fun i hi=>by obtain ⟨a,c,b,d,e,_⟩:=(HI.out.own i hi).pair;exact ⟨_,_,_,_,_,_,e⟩)
   have hd:=HI.out.d
   rw [hA2] at hd
   obtain ⟨c0,c1,c2,c3,c4,c5,c6,c7,c8,c9⟩:=hd.facts10
   obtain ⟨d0,d1,d2,d3,d4,d5,d6,d7,d8,d9⟩:=RowAt.facts10 (vs:=noV) HI.out.out
   obtain ⟨g0,g1,g2,g3,g4,g5,g6,g7,g8,g9⟩:=HI.out.out.facts10f
   simp only [noV] at d0 d1 d2 d3 d4 d5 d6 d7 d8 d9
   simp only [hv] at c0 c1 c2 c3 c4 c5 c6 c7 c8 c9
   clear hd
   go_wp2
   rw [set10]
   clear d0 d1 d2 d3 d4 d5 d6 d7 d8 d9 c0 c1 c2 c3 c4 c5 c6 c7 c8 c9 g0 g1 g2 g3 g4 g5 g6 g7 g8 g9
   have hro:=row_set10 (hv A) HI.out.out
   have hz:=HI.out.out.lt
   have hfin:DicOwn w.heap.size (setL wr (w.heap.size + 1) 0 (dcells (hv A))) (hv A) (cutD D):=fun i hi=>by rw [← hA1 i hi];exact (((HI.out.own i hi).setL (by omega) _ 0).base (by omega))
   have hbf:=below_setL (Nat.le_succ w.heap.size) (dcells (hv A)) 0 HI.out.below
   obtain ⟨q0,q1,q2,q3,q4,q5,q6,q7,q8,q9⟩:=RowAt.facts10 hro
   refine bodyPost_ret (v:=dv (hv A)) ?_ rfl ⟨_,rfl,hfin,hbf⟩
   unfold dv dcells hv at *
   simp [results,Tryz.results10,go_sem,q0,q1,q2,q3,q4,q5,q6,q7,q8,q9]
end

end Go.Proofs.YtkmbnghghbfkdaaGreat
