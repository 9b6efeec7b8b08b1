/- The document: texts at places. -/
import Derived.Test.YtkmbnghghbfkdaaGreatGp45
import Derived.Test.YtkmbnghghbfkdaaGreatGp36
set_option linter.unusedSimpArgs false
set_option linter.unusedVariables false
set_option maxHeartbeats 2000000
set_option maxRecDepth 100000
namespace Go.Proofs.YtkmbnghghbfkdaaGreat
open Go.Lib (hid)

section
open Go.RowKit Go.Shelf Go.Sort
attribute [local go_sem] Oper.semAt_some wide_fn wide_depth
def TxR (V:List ByteArray) (l:List Int) (T:List ByteArray) (b:Bool):Prop:=(b = true ∧ textsO V l = some T) ∨ (b = false ∧ textsO V l = none ∧ T = [])
theorem TxR.yes {V:List ByteArray} {l:List Int} {T:List ByteArray} (h:preF (textO V) l = (T,true)):TxR V l T true:=.inl ⟨rfl,by unfold textsO;rw [h];rfl⟩
theorem TxR.no {V:List ByteArray} {l:List Int} {T:List ByteArray} (h:preF (textO V) l = (T,false)):TxR V l [] false:=.inr ⟨rfl,by unfold textsO;rw [h];rfl,rfl⟩
theorem textO_no {V:List ByteArray} {n:Int} (h:¬ (0 ≤ n ∧ n < V.length)):textO V n = none:=by unfold textO;rw [if_neg h]
theorem textO_yes {V:List ByteArray} {q:Nat} (h:q < V.length):textO V (q:Int) = some V[q]:=by
 unfold textO
 rw [if_pos (by omega),Int.toNat_natCast,List.getD_eq_getElem?_getD,List.getElem?_eq_getElem h];rfl
theorem textsR_any (v u:Value) (l:List Int) (V:List ByteArray) (w:World) (hl:Ints w .i64 v l) (hV:Strs w u V) (hn:l.length ≤ 1000000) :
 Calls Tryz.prog 72 #[v,u] w fun e w'=>∃ a c T b,e = .returned (.tuple #[.slice a T.length c,.bool b]) ∧ TxR V l T b ∧ w'.ownsRow w.heap.size 9 1 (.slice a T.length c) T.length (T.map Value.string) ∧ Ext w w':=by
 obtain ⟨la,lc,rfl,_,_⟩:=hl.shape
 obtain ⟨va,vc,rfl,_,_⟩:=Sl.shape hV
 have HL:=hid hl
 have HV:=hid hV
 clear hl hV
 go_enter Tryz.func72,Tryz.ntmps72
 go_wp2_with fail
 go_loopg [6,11] l.length (fun g out i wr=>∃ (k:Nat) (T:List ByteArray) (oa:Option Addr) (oc:Nat),k ≤ l.length ∧ g = l.length - k ∧ i = .int .i64 k ∧ out = .slice oa k oc ∧ Hid (PreI (textO V) l k T) ∧ Hid (Ext w wr) ∧ Hid (wr.ownsRow w.heap.size 9 1 (.slice oa k oc) k (T.map Value.string)))
 case atStart=>exact ⟨0,[],none,0,Nat.zero_le _,rfl,rfl,rfl,hid (PreI.start _ _),hid (Ext.refl _),hid (World.ownsRow_nil _ _ _ _)⟩
 case round =>
  obtain ⟨k,T,oa,oc,hk,hg,rfl,rfl,HI,HXR,HO⟩:=hrel
  have Hg:=hid hg
  clear hg
  have hk6:k ≤ 1000000:=by omega
  by_cases hlt:k < l.length
  ·obtain ⟨b,o,rfl,c0⟩:=(HL.out.ext HXR.out).at_ hlt
   have hsm:=fun s h=>HI.out.some hlt (b:=s) h
   have hno:=fun h=>HI.out.none hlt h
   generalize l[k] = n at *
   have HSM:=hid hsm
   have HNO:=hid hno
   clear hsm hno
   by_cases hq:0 ≤ n ∧ n < V.length
   ·obtain ⟨q,rfl⟩:∃ q:Nat,n = q:=⟨n.toNat,by omega⟩
    have hqv:q < V.length:=by omega
    have HPI:=hid (HSM.out _ (textO_yes hqv))
    obtain ⟨b2,o2,rfl,e0⟩:=(Strs.ext HV.out HXR.out).at_ hqv
    generalize V[q] = s at *
    have n1:((q:Int) < 0) = False:=by simp
    have n2:((q:Int) ≥ (V.length:Int)) = False:=by simp;omega
    clear hq
    go_wp2_with (at_builtin;refine wpList_append_sl _ rfl _ _ 22 rfl elStr rfl (own_ext HO.out (Ext.alloc _ _)) rfl (Sl.new _ #[.string s] 9 1 1 (Nat.le_refl _) ?_) rfl ?_ ?_ ?_ ?_ ?_)
    ·unfold maxLen;omega
    ·rfl
    ·omega
    ·unfold maxLen;omega
    ·have:=HXR.out.size;simp;omega
    intro v' w6 how6 hb6 hg6 _
    obtain ⟨va',vc',rfl⟩:=own_vw how6
    have HX6:=hid (show Ext w w6 from Below.trans (HXR.out.trans (Ext.alloc _ _)) hb6)
    have HO6:=hid (show w6.ownsRow w.heap.size 9 1 (.slice va' (k + 1) vc') (k + 1) ((T ++ [s]).map Value.string) by rw [List.map_append];exact how6)
    clear how6 hb6 hg6 c0 e0 HXR HO
    go_wp2_with fail
    go_roundg (l.length - (k + 1))
    case measure=>have:=Hg.out;omega
    case rel=>exact ⟨k + 1,_,va',vc',by omega,rfl,by first | rfl | go_num,rfl,HPI,HX6,HO6⟩
   ·have HBD:=hid (TxR.no (HNO.out (textO_no hq)))
    by_cases h0:n < 0
    ·have n1:(n < 0) = True:=by simp;omega
     clear hq h0
     go_wp2_with fail
     go_ret2
     exact ⟨none,0,[],false,rfl,HBD.out,World.ownsRow_nil _ _ _ _,HXR.out⟩
    ·have n1:(n < 0) = False:=by simp;omega
     have n2:(n ≥ (V.length:Int)) = True:=by simp;omega
     clear hq h0
     go_wp2_with fail
     go_ret2
     exact ⟨none,0,[],false,rfl,HBD.out,World.ownsRow_nil _ _ _ _,HXR.out⟩
  ·have he:k = l.length:=by omega
   subst he
   have HYS:=hid (TxR.yes HI.out.done)
   have hlen:T.length = l.length:=HI.out.2
   go_wp2_with fail
   go_ret2
   exact ⟨oa,oc,T,true,by rw [hlen];rfl,HYS.out,by rw [hlen];exact HO.out,HXR.out⟩
end

/- The document: the places of the variables of each atom. -/
section
open Go.RowKit Go.Shelf Go.Sort
attribute [local go_sem] Oper.semAt_some wide_fn wide_depth
def groE6:Nat → Gro
 | 2=>.read
 | 5=>.read
 | _=>.pure
def rowLo (lo:Int):List Int:=if 0 ≤ lo then [lo] else []
def rowR (lo hi:Int):List Int:=rowLo lo ++ if 0 ≤ hi ∧ hi ≠ lo then [hi] else []
theorem rowR_edge (b:Bnd):rowR (min b.a.var b.b.var) (max b.a.var b.b.var) = edgeF b:=by
 unfold edgeF
 generalize min b.a.var b.b.var = lo
 generalize max b.a.var b.b.var = hi
 by_cases he:lo = hi
 ·subst he
  have hc:Lib.compact [lo,lo] = [lo]:=by simp [Lib.compact,Lib.compactUpTo,List.range_succ,Lib.keeps,List.filter]
  rw [hc]
  unfold rowR rowLo keepL
  by_cases h0:0 ≤ lo <;> simp [h0]
 ·have hc:Lib.compact [lo,hi] = [lo,hi]:=by
   simp [Lib.compact,Lib.compactUpTo,List.range_succ,Lib.keeps,List.filter,he,Ne.symm he]
  rw [hc]
  unfold rowR rowLo keepL
  by_cases h0:0 ≤ lo <;> by_cases h1:0 ≤ hi <;> simp [h0,h1,Ne.symm he]
set_option maxHeartbeats 4000000 in
theorem edgesR_any (G:Gol) (gs:List Value) (w:World) (hG:GolAt w (.agg gs.toArray) G) (hl:G.atoms.length ≤ 100000) :
 Calls Tryz.prog 33 #[.agg gs.toArray] w (EdgesQ w G):=by
 have hmo:Tryz.prog.follows .mixedOrders = true:=by kernel_rfl
 obtain ⟨vv,av,rv,hv',e,gV,gA,gR,gH⟩:=hG
 obtain rfl:gs = golC vv av rv hv' G:=by unfold golV at e;simpa using e
 obtain ⟨aa,ac,rfl,_,_⟩:=gA.shape
 have HA:=hid gA
 have H0:=hid (RowAt.new w 39 (golC vv (.slice aa G.atoms.length ac) rv hv' G))
 have HX:=hid (Ext.alloc w (.cells (golC vv (.slice aa G.atoms.length ac) rv hv' G).toArray 39))
 have HL:=hid hl
 clear gV gA gR gH hl e
 go_enter Tryz.func33,Tryz.ntmps33
 go_upto_region 1 with fail
 generalize w.alloc (.cells (golC vv (.slice aa G.atoms.length ac) rv hv' G).toArray 39) = w1 at *
 obtain ⟨y0,hy0⟩:∃ x,w.heap.size = x:=⟨_,rfl⟩
 have HY:=hid hy0
 rw [hy0] at H0
 simp only [hy0]
 clear hy0
 have c1:=H0.out.cell (i:=1) rfl
 go_wp2_with fail
 clear c1
 go_loopg [3,12] G.atoms.length (fun g out i wr=>∃ (k:Nat) (ys:List (Value × List Int)) (oa:Option Addr) (oc:Nat),k ≤ G.atoms.length ∧ g = G.atoms.length - k ∧ i = .int .i64 k ∧ out = .slice oa k oc ∧ Hid (ys.length = k ∧ ys.map Prod.snd = (G.atoms.take k).map edgeF) ∧ Hid (Ext w1 wr) ∧ Hid (IRows w1.heap.size wr (.slice oa k oc) ys))
 case atStart=>exact ⟨0,[],none,0,Nat.zero_le _,rfl,rfl,rfl,hid ⟨rfl,rfl⟩,hid (Ext.refl _),hid (IRows.none _ _)⟩
 case round =>
  obtain ⟨k,ys,oa,oc,hk,hg,rfl,rfl,HI,HXR,HO⟩:=hrel
  have Hg:=hid hg
  clear hg
  have hk6:k ≤ 100000:=by have:=HL.out;omega
  by_cases hlt:k < G.atoms.length
  ·obtain ⟨b,o,rfl,c0,c1,c2,c3,c4,c5⟩:=(HA.out.ext (HX.out.trans HXR.out)).at_ hlt
   have hstep:∀ q,(ys ++ [(q,edgeF G.atoms[k])]).length = k + 1 ∧ (ys ++ [(q,edgeF G.atoms[k])]).map Prod.snd = (G.atoms.take (k + 1)).map edgeF:=by
    intro q
    obtain ⟨i1,i2⟩:=HI.out
    rw [List.take_succ_eq_append_getElem hlt]
    exact ⟨by simp [i1],by rw [List.map_append,List.map_append,i2];rfl⟩
   have hre:=rowR_edge G.atoms[k]
   generalize G.atoms[k] = x at *
   obtain ⟨kd,nn,⟨a1,a2⟩,⟨b1,b2⟩⟩:=x
   rw [← hre] at hstep
   dsimp only at c0 c1 c2 c3 c4 c5 hstep
   have HST:=hid hstep
   clear hstep hre
   have HAX:=hid (Ext.alloc wr (.cells #[.int .i64 kd,.int .i64 nn,.int .i64 a1,.int .i64 a2,.int .i64 b1,.int .i64 b2] 75))
   have HAB:=hid (RowAt.new wr 75 [.int .i64 kd,.int .i64 nn,.int .i64 a1,.int .i64 a2,.int .i64 b1,.int .i64 b2])
   go_upto_region 6 with fail
   replace HAB:Hid (RowAt (wr.alloc (.cells #[.int .i64 kd,.int .i64 nn,.int .i64 a1,.int .i64 a2,.int .i64 b1,.int .i64 b2] 75)) wr.heap.size 75 [.int .i64 kd,.int .i64 nn,.int .i64 a1,.int .i64 a2,.int .i64 b1,.int .i64 b2]):=HAB
   generalize wr.alloc (.cells #[.int .i64 kd,.int .i64 nn,.int .i64 a1,.int .i64 a2,.int .i64 b1,.int .i64 b2] 75) = wb at *
   obtain ⟨t,ht⟩:∃ t,wr.heap.size = t:=⟨_,rfl⟩
   rw [ht] at HAB
   simp only [ht]
   clear ht c0 c1 c2 c3 c4 c5
   refine wp_region_grox [] groE6 [0,1,2,3,4,5,6,7] hmo (by kernel_rfl) rfl (by kernel_rfl) (fun _ _ _ _ _ h=>h) ?_
   have hxd:Ext wb wb.drew:=Ext.drewN wb 1
   have HXD:=hid ((HXR.out.trans HAX.out).trans hxd)
   have HOD:=hid (HO.out.ext (HAX.out.trans hxd))
   have HBD:=hid (HAB.out.ext hxd)
   clear hxd HXR HO HAX HAB
   generalize wb.drew = wd at *
   have e2:=HBD.out.cell (i:=2) rfl
   have e4:=HBD.out.cell (i:=4) rfl
   repeat (first
    | (refine groX_pure rfl rfl ?_;intro K hK;go_simp;refine hK _ ?_;clear hK K)
    | (refine groX_read rfl rfl ?_;intro K S hS hK;go_simp;refine hK _ ?_;clear hK K hS S)
    | (refine groX_read rfl rfl ?_;intro K S hS hK;go_simp;refine ⟨hS _ ?_,hK _ ?_⟩;(clear hK K hS S;intro w' hx';have hce:=grows_some hx';go_simp);clear hK K hS S))
   refine groX_nil ?_
   clear e2 e4 HBD
   obtain ⟨lo,hlo⟩:∃ x,min a1 b1 = x:=⟨_,rfl⟩
   obtain ⟨hi,hhi⟩:∃ x,max a1 b1 = x:=⟨_,rfl⟩
   rw [hlo,hhi] at HST
   obtain ⟨B,hB⟩:∃ B,decide (b1 < a1) = B:=⟨_,rfl⟩
   go_upto_if 24 with fail
   have HBB:=hid hB
   have HLO:=hid hlo
   have HHI:=hid hhi
   clear hlo hhi hB
   go_cut [7,8] (fun s7 s8 wx=>s7 = .int .i64 lo ∧ s8 = .int .i64 hi ∧ wx = wd)
   case first =>
    cases B with
    | true =>
     have hab:=of_decide_eq_true HBB.out
     have h1:lo = b1:=by rw [← HLO.out];omega
     have h2:hi = a1:=by rw [← HHI.out];omega
     have HE:=hid (show Value.int .i64 b1 = .int .i64 lo ∧ Value.int .i64 a1 = .int .i64 hi from ⟨by rw [h1],by rw [h2]⟩)
     clear hab h1 h2
     go_wp2_with fail
     go_meet
     exact ⟨HE.out.1,HE.out.2,rfl⟩
    | false =>
     have hab:=of_decide_eq_false HBB.out
     have h1:lo = a1:=by rw [← HLO.out];omega
     have h2:hi = b1:=by rw [← HHI.out];omega
     have HE:=hid (show Value.int .i64 a1 = .int .i64 lo ∧ Value.int .i64 b1 = .int .i64 hi from ⟨by rw [h1],by rw [h2]⟩)
     clear hab h1 h2
     go_wp2_with fail
     go_meet
     exact ⟨HE.out.1,HE.out.2,rfl⟩
   case rest =>
    obtain ⟨rfl,rfl,hwc⟩:=hcut
    rw [hwc]
    clear hwc
    obtain ⟨B2,hB2⟩:∃ B,decide (0 ≤ lo) = B:=⟨_,rfl⟩
    go_upto_if 28 with fail
    have HB2:=hid hB2
    clear hB2
    go_cut [6] (fun s6 wx=>Hid (∃ ra rc,s6 = .slice ra (rowLo lo).length rc ∧ Ext wd wx ∧ wx.ownsRow wd.heap.size 3 1 (.slice ra (rowLo lo).length rc) (rowLo lo).length ((rowLo lo).map (Value.int .i64))))
    case first =>
     cases B2 with
     | true =>
      have HRL:=hid (show rowLo lo = [lo] by unfold rowLo;rw [if_pos (of_decide_eq_true HB2.out)])
      go_wp2_with (at_builtin;refine wpList_append_sl _ rfl _ _ 23 rfl elIn rfl (World.ownsRow_nil _ wd.heap.size _ _) rfl (Sl.new _ #[.int .i64 lo] 3 1 1 (Nat.le_refl _) ?_) rfl ?_ ?_ ?_ ?_ ?_)
      ·unfold maxLen;omega
      ·rfl
      ·omega
      ·unfold maxLen;omega
      ·simp
      intro v' w6 how6 hb6 hg6 _
      obtain ⟨va,vc,rfl⟩:=own_vw how6
      have HFN:=hid (show ∃ ra rc,(Value.slice va (0 + 1) vc) = .slice ra (rowLo lo).length rc ∧ Ext wd w6 ∧ w6.ownsRow wd.heap.size 3 1 (.slice ra (rowLo lo).length rc) (rowLo lo).length ((rowLo lo).map (Value.int .i64)) from by rw [HRL.out];exact ⟨va,vc,rfl,Below.trans (Ext.alloc _ _) hb6,how6⟩)
      clear how6 hb6 hg6
      go_wp2_with fail
      go_meet
      exact HFN
     | false =>
      have HRL:=hid (show rowLo lo = [] by unfold rowLo;rw [if_neg (of_decide_eq_false HB2.out)])
      go_wp2_with fail
      go_meet
      exact hid (by rw [HRL.out];exact ⟨none,0,rfl,Ext.refl _,World.ownsRow_nil _ _ _ _⟩)
    case rest =>
     obtain ⟨ra,rc,rfl,hxc,hrc⟩:=hcut.out
     have hll:(rowLo lo).length ≤ 1:=by unfold rowLo;split <;> simp
     have hrr:rowR lo hi = rowLo lo ++ if 0 ≤ hi ∧ hi ≠ lo then [hi] else []:=rfl
     generalize rowLo lo = L1 at *
     have HX3:=hid hxc
     have HR3:=hid hrc
     clear hcut hxc hrc HB2
     obtain ⟨L2,hL2⟩:∃ L,rowR lo hi = L:=⟨_,rfl⟩
     rw [hL2] at HST hrr
     have HL2:=hid hrr
     clear hL2 hrr
     obtain ⟨B3,hB3⟩:∃ B,decide (0 ≤ hi) = B:=⟨_,rfl⟩
     obtain ⟨B4,hB4⟩:∃ B,(hi != lo) = B:=⟨_,rfl⟩
     cases B3 with
     | false =>
      have HRL:=hid (show L2 = L1 by rw [HL2.out,if_neg (fun e=>of_decide_eq_false hB3 e.1),List.append_nil])
      have hrow0:=HOD.out.ext (HX3.out.trans (Ext.alloc wc (.cells #[.slice ra (L1).length rc] 23)))
      have hrow1:(wc.alloc (.cells #[.slice ra (L1).length rc] 23)).ownsRow w1.heap.size 23 1 (.slice oa k oc) k (ys.map Prod.fst):=by have:=hrow0.1;rwa [HI.out.1] at this
      have hkw:(wc.alloc (.cells #[.slice ra (L1).length rc] 23)).ownsRow w1.heap.size 3 1 (.slice ra (L1).length rc) L2.length (L2.map (Value.int .i64)):=by
       have h:=own_ext (own_base HR3.out HXD.out.size) (Ext.alloc wc (.cells #[.slice ra (L1).length rc] 23))
       rw [HRL.out]
       exact h
      have HRS:=hid hrow0
      have HKW:=hid hkw
      have HXE:=hid (HXD.out.trans HX3.out)
      clear hrow0 hkw
      go_wp2_with (at_builtin;refine wpList_append_sl _ rfl _ _ 68 rfl elIRow rfl hrow1 rfl (Sl.new _ #[.slice ra (L1).length rc] 23 1 1 (Nat.le_refl _) ?_) rfl ?_ ?_ ?_ ?_ ?_)
      ·unfold maxLen;omega
      ·rfl
      ·omega
      ·unfold maxLen;omega
      ·have:=HXE.out.size;simp;omega
      intro v9 w9 how9 hb9 hg9 _
      obtain ⟨va9,vc9,rfl⟩:=own_vw how9
      have HX9:=hid (show Ext w1 w9 from Below.trans (HXE.out.trans (Ext.alloc _ _)) hb9)
      have HSN:=hid (IRows.snoc HRS.out.1 HRS.out.2 HKW.out (v':=.slice va9 (k + 1) vc9) (w':=w9) (by rw [HI.out.1];exact how9) hg9)
      have HI9:=hid (HST.out (.slice ra (L1).length rc))
      clear how9 hb9 hg9 hrow1
      go_wp2_with fail
      go_roundg (G.atoms.length - (k + 1))
      case measure=>have:=Hg.out;omega
      case rel=>exact ⟨k + 1,_,va9,vc9,by omega,rfl,by first | rfl | go_num,rfl,HI9,HX9,HSN⟩
     | true =>
      cases B4 with
      | false =>
       have HRL:=hid (show L2 = L1 by rw [HL2.out,if_neg (fun e=>by simp at hB4;exact e.2 hB4),List.append_nil])
       have hrow0:=HOD.out.ext (HX3.out.trans (Ext.alloc wc (.cells #[.slice ra (L1).length rc] 23)))
       have hrow1:(wc.alloc (.cells #[.slice ra (L1).length rc] 23)).ownsRow w1.heap.size 23 1 (.slice oa k oc) k (ys.map Prod.fst):=by have:=hrow0.1;rwa [HI.out.1] at this
       have hkw:(wc.alloc (.cells #[.slice ra (L1).length rc] 23)).ownsRow w1.heap.size 3 1 (.slice ra (L1).length rc) L2.length (L2.map (Value.int .i64)):=by
        have h:=own_ext (own_base HR3.out HXD.out.size) (Ext.alloc wc (.cells #[.slice ra (L1).length rc] 23))
        rw [HRL.out]
        exact h
       have HRS:=hid hrow0
       have HKW:=hid hkw
       have HXE:=hid (HXD.out.trans HX3.out)
       clear hrow0 hkw
       go_wp2_with (at_builtin;refine wpList_append_sl _ rfl _ _ 68 rfl elIRow rfl hrow1 rfl (Sl.new _ #[.slice ra (L1).length rc] 23 1 1 (Nat.le_refl _) ?_) rfl ?_ ?_ ?_ ?_ ?_)
       ·unfold maxLen;omega
       ·rfl
       ·omega
       ·unfold maxLen;omega
       ·have:=HXE.out.size;simp;omega
       intro v9 w9 how9 hb9 hg9 _
       obtain ⟨va9,vc9,rfl⟩:=own_vw how9
       have HX9:=hid (show Ext w1 w9 from Below.trans (HXE.out.trans (Ext.alloc _ _)) hb9)
       have HSN:=hid (IRows.snoc HRS.out.1 HRS.out.2 HKW.out (v':=.slice va9 (k + 1) vc9) (w':=w9) (by rw [HI.out.1];exact how9) hg9)
       have HI9:=hid (HST.out (.slice ra (L1).length rc))
       clear how9 hb9 hg9 hrow1
       go_wp2_with fail
       go_roundg (G.atoms.length - (k + 1))
       case measure=>have:=Hg.out;omega
       case rel=>exact ⟨k + 1,_,va9,vc9,by omega,rfl,by first | rfl | go_num,rfl,HI9,HX9,HSN⟩
      | true =>
       have HRL:=hid (show L2 = L1 ++ [hi] by rw [HL2.out,if_pos ⟨of_decide_eq_true hB3,by simpa using hB4⟩])
       go_wp2_with (at_builtin;refine wpList_append_sl _ rfl _ _ 23 rfl elIn rfl (own_ext HR3.out (Ext.alloc _ _)) rfl (Sl.new _ #[.int .i64 hi] 3 1 1 (Nat.le_refl _) ?_) rfl ?_ ?_ ?_ ?_ ?_)
       ·unfold maxLen;omega
       ·rfl
       ·omega
       ·unfold maxLen;omega
       ·have:=HX3.out.size;simp;omega
       intro v' w6 how6 hb6 hg6 _
       obtain ⟨va,vc,rfl⟩:=own_vw how6
       have HX7:=hid (show Ext wd w6 from Below.trans (HX3.out.trans (Ext.alloc _ _)) hb6)
       have HR7:=hid (show w6.ownsRow wd.heap.size 3 1 (.slice va (L1.length + 1) vc) (L1.length + 1) ((L1 ++ [hi]).map (Value.int .i64)) by rw [List.map_append];exact how6)
       clear how6 hb6 hg6 HX3 HR3
       have HRL':=hid (show L2.length = L1.length + 1 by rw [HRL.out];simp)
       have hrow0:=HOD.out.ext (HX7.out.trans (Ext.alloc w6 (.cells #[.slice va (L1.length + 1) vc] 23)))
       have hrow1:(w6.alloc (.cells #[.slice va (L1.length + 1) vc] 23)).ownsRow w1.heap.size 23 1 (.slice oa k oc) k (ys.map Prod.fst):=by have:=hrow0.1;rwa [HI.out.1] at this
       have hkw:(w6.alloc (.cells #[.slice va (L1.length + 1) vc] 23)).ownsRow w1.heap.size 3 1 (.slice va (L1.length + 1) vc) L2.length (L2.map (Value.int .i64)):=by
        have h:=own_ext (own_base HR7.out HXD.out.size) (Ext.alloc w6 (.cells #[.slice va (L1.length + 1) vc] 23))
        rw [HRL.out]
        rw [List.length_append];exact h
       have HRS:=hid hrow0
       have HKW:=hid hkw
       have HXE:=hid (HXD.out.trans HX7.out)
       clear hrow0 hkw
       go_wp2_with (at_builtin;refine wpList_append_sl _ rfl _ _ 68 rfl elIRow rfl hrow1 rfl (Sl.new _ #[.slice va (L1.length + 1) vc] 23 1 1 (Nat.le_refl _) ?_) rfl ?_ ?_ ?_ ?_ ?_)
       ·unfold maxLen;omega
       ·rfl
       ·omega
       ·unfold maxLen;omega
       ·have:=HXE.out.size;simp;omega
       intro v9 w9 how9 hb9 hg9 _
       obtain ⟨va9,vc9,rfl⟩:=own_vw how9
       have HX9:=hid (show Ext w1 w9 from Below.trans (HXE.out.trans (Ext.alloc _ _)) hb9)
       have HSN:=hid (IRows.snoc HRS.out.1 HRS.out.2 HKW.out (v':=.slice va9 (k + 1) vc9) (w':=w9) (by rw [HI.out.1];exact how9) hg9)
       have HI9:=hid (HST.out (.slice va (L1.length + 1) vc))
       clear how9 hb9 hg9 hrow1
       go_wp2_with fail
       go_roundg (G.atoms.length - (k + 1))
       case measure=>have:=Hg.out;omega
       case rel=>exact ⟨k + 1,_,va9,vc9,by omega,rfl,by first | rfl | go_num,rfl,HI9,HX9,HSN⟩
  ·have he:k = G.atoms.length:=by omega
   subst he
   have hres:=HI.out
   rw [List.take_length] at hres
   have HRES:=hid hres
   clear hres
   go_wp2_with fail
   go_ret
   exact ⟨_,ys,rfl,HRES.out.2,⟨own_base HO.out.1 HX.out.size,fun x hx=>own_base (HO.out.2 x hx) HX.out.size⟩,HX.out.trans HXR.out⟩
end

/- The document leads back to the same: plain. -/
section
def atmO (D:Dic) (V:List ByteArray) (b:Bnd):Option Atm:=if (atmT D V b).2 = true then some (atmT D V b).1 else none
def extraB (b:Bnd):Prop:=(b.kind = 0 → b.a = b.b ∧ b.name = 0) ∧ (b.kind = 1 → b.a = b.b) ∧ (b.kind = 2 → b.a.var = -1)
theorem atmO_F {D:Dic} {V:List ByteArray} {b:Bnd} (x:Atm):atmO D V b = some x ↔ atmF D V b = some x ∧ extraB b:=by
 obtain ⟨kd,nm,a,b⟩:=b
 unfold atmO atmT atmF extraB
 dsimp only
 rw [termT_F D V a,termT_F D V b,nmT_O D 1 nm,nmT_O D 3 nm,nmT_O D 4 a.id,nmT_O D 2 nm]
 obtain ⟨⟨t1,t2⟩,tq⟩:=termT D V a
 obtain ⟨⟨u1,u2⟩,uo⟩:=termT D V b
 obtain ⟨s1,o1⟩:=nmT D 1 nm
 obtain ⟨s2,o2⟩:=nmT D 2 nm
 obtain ⟨s3,o3⟩:=nmT D 3 nm
 obtain ⟨s4,o4⟩:=nmT D 4 a.id
 dsimp only
 by_cases h0:kd = 0
 ·subst h0
  rw [if_pos rfl,if_pos rfl]
  cases tq <;> simp
  exact and_comm
 by_cases h1:kd = 1
 ·subst h1
  rw [if_neg h0,if_pos rfl,if_neg h0,if_pos rfl]
  cases tq <;> cases o1 <;> simp
  exact and_comm
 by_cases h2:kd = 2
 ·subst h2
  rw [if_neg h0,if_neg h1,if_pos rfl,if_neg h0,if_neg h1,if_pos rfl]
  cases uo <;> cases o3 <;> cases o4 <;> simp
  exact and_comm
 by_cases h3:kd = 3
 ·subst h3
  rw [if_neg h0,if_neg h1,if_neg h2,if_pos rfl,if_neg h0,if_neg h1,if_neg h2,if_pos rfl]
  cases tq <;> cases uo <;> cases o2 <;> simp
 ·rw [if_neg h0,if_neg h1,if_neg h2,if_neg h3,if_neg h0,if_neg h1,if_neg h2,if_neg h3]
  simp
theorem bnd_extra {D:Dic} {V:List ByteArray} {a:Atm} {b:Bnd} (h:bndF D V a = some b):extraB b:=by
 unfold bndF at h
 split at h
 ·obtain ⟨x,hx,rfl⟩:=Option.map_eq_some_iff.1 h
  exact ⟨fun _=>⟨rfl,rfl⟩,fun h=>by simp at h,fun h=>by simp at h⟩
 ·split at h
  ·obtain ⟨x,hx,h⟩:=Option.bind_eq_some_iff.1 h
   split at h
   ·cases h;exact ⟨fun h=>by simp at h,fun _=>rfl,fun h=>by simp at h⟩
   ·cases h
  ·split at h
   ·obtain ⟨x,hx,h⟩:=Option.bind_eq_some_iff.1 h
    split at h
    ·cases h;exact ⟨fun h=>by simp at h,fun h=>by simp at h,fun _=>rfl⟩
    ·cases h
   ·split at h
    ·obtain ⟨x,hx,h⟩:=Option.bind_eq_some_iff.1 h
     obtain ⟨y,hy,h⟩:=Option.bind_eq_some_iff.1 h
     split at h
     ·cases h;exact ⟨fun h=>by simp at h,fun h=>by simp at h,fun h=>by simp at h⟩
     ·cases h
    ·cases h
theorem preF_from {α β:Type} {f:α → Option β} {l:List α}:∀ b ∈ (preF f l).1,∃ a ∈ l,f a = some b:=by
 induction l with
 | nil=>intro b hb;cases hb
 | cons a l ih =>
  cases hf:f a with
  | none=>intro b hb;simp only [preF,hf] at hb;cases hb
  | some x =>
   intro b hb
   simp only [preF,hf] at hb
   rcases List.mem_cons.1 hb with rfl | hb
   ·exact ⟨a,List.mem_cons_self ..,hf⟩
   ·obtain ⟨c,hc,e⟩:=ih b hb
    exact ⟨c,List.mem_cons_of_mem _ hc,e⟩
theorem preF_congr {α β:Type} {f g:α → Option β} {l:List α} (h:∀ a ∈ l,f a = g a):preF f l = preF g l:=by
 induction l with
 | nil=>rfl
 | cons a l ih =>
  simp only [preF]
  rw [h a (List.mem_cons_self ..),ih (fun a ha=>h a (List.mem_cons_of_mem _ ha))]
theorem textsO_inv {V:List ByteArray} (hd:Distinct V) {l:List Int} {T:List ByteArray} (h:textsO V l = some T):l = T.map (findF V):=by
 unfold textsO at h
 split at h
 ·rename_i hp
  cases h
  induction l with
  | nil=>rfl
  | cons n l ih =>
   cases hf:textO V n with
   | none=>simp only [preF,hf] at hp;cases hp
   | some s =>
    simp only [preF,hf] at hp ⊢
    rw [List.map_cons,← ih hp]
    congr 1
    unfold textO at hf
    split at hf
    ·rename_i hr
     obtain ⟨q,rfl⟩:∃ q:Nat,n = q:=⟨n.toNat,by omega⟩
     have hq:q < V.length:=by omega
     cases hf
     rw [Int.toNat_natCast,List.getD_eq_getElem?_getD,List.getElem?_eq_getElem hq]
     exact (findF_distinct hd hq).symm
    ·cases hf
 ·cases h
def patR (g:Gol) (A:List Atm) (R H:List ByteArray):Pat:=⟨A,if g.ret = g.vars.map (findF g.vars) then [] else R,g.count,g.distinct,g.limited,g.limit,g.offset,H⟩
theorem patR_of {g:Gol} {A:List Atm} {R H:List ByteArray} (hd:Distinct g.vars) (hR:textsO g.vars g.ret = some R):patR g A R H = patOf g A R H:=by
 unfold patR patOf
 congr 1
 by_cases h:R = g.vars
 ·rw [if_pos h,if_pos (by rw [textsO_inv hd hR,h])]
 ·rw [if_neg h,if_neg (fun e=>h (by
   have h1:=textsO_map (V:=g.vars) (l:=g.vars) (fun s hs=>hs)
   rw [← e,hR] at h1
   exact Option.some.inj h1))]
theorem goalF_vars' {D:Dic} {P:Pat} {g:Gol} (h:goalF D P = some g):g.vars = varsS P.atoms ∧ Distinct g.vars:=by
 obtain ⟨_,rfl⟩:=goalF_some h
 exact ⟨rfl,varsS_distinct _⟩
theorem refBack_all {D:Dic} {g:Gol} {A:List Atm} (hA:preF (atmO D g.vars) g.atoms = (A,true)):atmsF D g.vars g.atoms = (A,true):=by
 have h:=preF_sup (f:=atmO D g.vars) (g:=atmF D g.vars) (l:=g.atoms) (fun a _ b hb=>((atmO_F b).1 hb).1) (by rw [hA])
 unfold atmsF
 rw [h,hA]
theorem refBack_no {D:Dic} {g:Gol} (hA:(preF (atmO D g.vars) g.atoms).2 = false):backF D g = none:=by
 cases hb:backF D g with
 | none=>rfl
 | some P =>
  exfalso
  unfold backF at hb
  split at hb
  ·rename_i hT
   split at hb
   ·split at hb
    ·rename_i hc
     obtain ⟨h1,h2⟩:=goalF_some hc.2
     have hex:∀ b ∈ g.atoms,extraB b:=fun b hb=>by
      rw [h2] at hb
      obtain ⟨a,_,e⟩:=preF_from b hb
      exact bnd_extra e
     have hcg:preF (atmO D g.vars) g.atoms = preF (atmF D g.vars) g.atoms:=preF_congr (fun b hb=>by
      cases hf:atmF D g.vars b with
      | none =>
       cases ho:atmO D g.vars b with
       | none=>rfl
       | some x=>have:=((atmO_F x).1 ho).1;rw [hf] at this;cases this
      | some x=>exact (atmO_F x).2 ⟨hf,hex b hb⟩)
     unfold atmsF at hT
     rw [hcg,hT] at hA
     cases hA
    ·cases hb
   ·cases hb
  ·cases hb
theorem refBack_texts {D:Dic} {g:Gol} (h:textsO g.vars g.ret = none ∨ textsO g.vars g.hint = none):backF D g = none:=by
 unfold backF
 split
 ·rcases h with h | h
  ·rw [h]
  ·rw [h]
   split
   ·rename_i h1 h2;cases h2
   ·rfl
 ·rfl
theorem refBack_pat {D:Dic} {g:Gol} {A:List Atm} {R H:List ByteArray} (hA:preF (atmO D g.vars) g.atoms = (A,true)) (hR:textsO g.vars g.ret = some R) (hH:textsO g.vars g.hint = some H) :
 backF D g = if (patR g A R H).okB = true ∧ goalF D (patR g A R H) = some g then some (patR g A R H) else none:=by
 have hT:=refBack_all hA
 unfold backF
 rw [hT,hR,hH]
 dsimp only
 rw [if_pos rfl]
 by_cases hd:Distinct g.vars
 ·rw [patR_of hd hR]
 ·rw [if_neg (fun h=>hd (goalF_vars' h.2).2),if_neg (fun h=>hd (goalF_vars' h.2).2)]
end

end Go.Proofs.YtkmbnghghbfkdaaGreat
