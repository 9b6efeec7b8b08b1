/- A dictionary in memory of its own. -/
import Derived.Test.YtkmbnghghbfkdaaGreatGp09
import Derived.Test.YtkmbnghghbfkdaaGreatGp03
set_option linter.unusedSimpArgs false
set_option linter.unusedVariables false
set_option maxHeartbeats 2000000
set_option maxRecDepth 100000
namespace Go.Proofs.YtkmbnghghbfkdaaGreat
open Go.Lib (hid)

section
open Go.RowKit Go.Shelf Go.Sort
attribute [local go_sem] Oper.semAt_some wide_fn wide_depth
theorem tab_mark {B:Nat} {W:World} {D:Nat} {v:Value} {T:List ByteArray} {S:List Int} (h:TabOwn B W v T S) (hD:W.heap[D]? = some (.deferred (some []))):TabOwn B (W.putObj D (.deferred none)) v T S:=by
 obtain ⟨a,n,c,b,m,d,rfl,h1,h2⟩:=h
 exact ⟨a,n,c,b,m,d,rfl,own_mark h1 hD,own_mark h2 hD⟩
structure OwI (w:World) (vs:Nat → Value × Value) (D:Dic) (k:Nat) (ts:Nat → Value × Value) (W:World):Prop where
 below:Below w.heap.size w W
 arg:RowAt W (w.heap.size + 1 + 1) 28 (dcells vs)
 out:RowAt W (w.heap.size + 1) 28 (dcells noV)
 d:RowAt W w.heap.size 28 (dcells ts)
 own:∀ i,i < k → TabOwn (w.heap.size + 1 + 1 + 1) W (.agg #[(ts i).1,(ts i).2]) (D i).1 (D i).2
theorem Stab.tabOwn (B b:Nat) (v:Value) (T:List ByteArray) (S:List Int):Stab B (fun W=>TabOwn b W v T S):=fun W W' row h hg hr=>by
 obtain ⟨a,n,c,b',m,d,rfl,h1,h2⟩:=h
 exact ⟨a,n,c,b',m,d,rfl,Stab.own B _ _ _ _ _ _ W W' row h1 hg hr,Stab.own B _ _ _ _ _ _ W W' row h2 hg hr⟩
theorem OwI.stab (w:World) (vs:Nat → Value × Value) (D:Dic) (k:Nat) (ts:Nat → Value × Value) (B:Nat) (hB:w.heap.size ≤ B):Stab B (OwI w vs D k ts):=fun W W' row h hg hr =>
 ⟨Stab.belowW w B hB W W' row h.below hg hr,Stab.rowD _ _ _ _ W W' row h.arg hg hr,Stab.rowD _ _ _ _ W W' row h.out hg hr,Stab.rowD _ _ _ _ W W' row h.d hg hr,fun i hi=>Stab.tabOwn _ _ _ _ _ W W' row (h.own i hi) hg hr⟩
theorem OwI.ext {w:World} {vs:Nat → Value × Value} {D:Dic} {k:Nat} {ts:Nat → Value × Value} {W W':World} (h:OwI w vs D k ts W) (hx:Ext W W'):OwI w vs D k ts W' :=
 ⟨Below.ext h.below hx h.below.size,h.arg.ext hx,h.out.ext hx,h.d.ext hx,fun i hi=>(h.own i hi).ext hx⟩
theorem OwI.next {w:World} {vs:Nat → Value × Value} {D:Dic} {k:Nat} {ts:Nat → Value × Value} {W:World} (h:OwI w vs D k ts W) (hk:k < 5) {ua ub:Option Addr} {ca cb:Nat} {wa wb:World}
 (hxa:Ext W wa) (ha:wa.ownsRow W.heap.size 9 1 (.slice ua (D k).1.length ca) (D k).1.length ((D k).1.map Value.string)) (hxb:Ext wa wb) (hb:wb.ownsRow wa.heap.size 3 1 (.slice ub (D k).2.length cb) (D k).2.length ((D k).2.map (Value.int .i64))) (B:Nat) :
 KeepsFrom B W ((wb.setCell ⟨w.heap.size,k * 2,none⟩ (.slice ua (D k).1.length ca)).setCell ⟨w.heap.size,k * 2 + 1,none⟩ (.slice ub (D k).2.length cb)) ∧
  OwI w vs D (k + 1) (upd ts k (.slice ua (D k).1.length ca,.slice ub (D k).2.length cb)) ((wb.setCell ⟨w.heap.size,k * 2,none⟩ (.slice ua (D k).1.length ca)).setCell ⟨w.heap.size,k * 2 + 1,none⟩ (.slice ub (D k).2.length cb)):=by
 have hI:=(h.ext hxa).ext hxb
 have hz:=h.arg.lt
 have h1:=hxa.size
 have p1:=hI.d.cell (i:=k * 2) (dcells_at ts hk).1
 have r1:=hI.d.set (k * 2) (.slice ua (D k).1.length ca)
 have p2:=r1.cell (i:=k * 2 + 1) (by rw [List.getElem?_set_ne (by omega)];exact (dcells_at ts hk).2)
 refine ⟨((keeps_ext B (hxa.trans hxb)).trans (keeps_set B p1 _)).trans (keeps_set B p2 _),?_,?_,?_,row_upd hI.d hk _ _,?_⟩
 ·exact (hI.below.setCell (p:=⟨w.heap.size,k * 2,none⟩) (Nat.le_refl _) _).setCell (p:=⟨w.heap.size,k * 2 + 1,none⟩) (Nat.le_refl _) _
 ·exact (RowAt.set_ne (RowAt.set_ne hI.arg (by omega)) (by omega))
 ·exact (RowAt.set_ne (RowAt.set_ne hI.out (by omega)) (by omega))
 ·intro i hi
  by_cases e:i = k
  ·subst e
   rw [upd_at]
   refine (TabOwn.setL (g:=w.heap.size) ?_ (by omega) [_] _).setL (by omega) [_] _
   exact ⟨_,_,_,_,_,_,rfl,own_base (own_ext ha hxb) (by omega),own_base hb (by omega)⟩
  ·rw [upd_ne _ _ e]
   exact ((hI.own i (by omega)).setL (by omega) [_] _).setL (by omega) [_] _
def groOwn:Nat → Gro
 | 2=>.read
 | 5=>.read
 | 3=>.grow
 | 6=>.grow
 | 9=>.write
 | 10=>.write
 | _=>.pure
theorem down_any (vs:Nat → Value × Value) (D:Dic) (w:World) (hV:DicV w vs D) (hS:DicS D) :
 Calls Tryz.prog 58 #[dv vs] w fun e w'=>∃ us,e = .returned (dv us) ∧ DicOwn w.heap.size w' us D ∧ Ext w w':=by
 have hmo:Tryz.prog.follows .mixedOrders = true:=by kernel_rfl
 have hk:=fun w=>kinds_any vs w
 have hI0:OwI w vs D 0 vs (((w.alloc (.cells (dcells vs).toArray 28)).alloc (.cells (dcells noV).toArray 28)).alloc (.cells (dcells vs).toArray 28)) :=
  ⟨((Ext.alloc _ _).trans (Ext.alloc _ _)).trans (Ext.alloc _ _),row_at (by simp),(row_at (xs:=dcells noV) (by simp)).ext (Ext.alloc _ _),((RowAt.new w _ (dcells vs)).ext (Ext.alloc _ _)).ext (Ext.alloc _ _),fun i h=>by omega⟩
 have hx0:Ext w (((w.alloc (.cells (dcells vs).toArray 28)).alloc (.cells (dcells noV).toArray 28)).alloc (.cells (dcells vs).toArray 28)):=((Ext.alloc _ _).trans (Ext.alloc _ _)).trans (Ext.alloc _ _)
 have hsz:(((w.alloc (.cells (dcells vs).toArray 28)).alloc (.cells (dcells noV).toArray 28)).alloc (.cells (dcells vs).toArray 28)).heap.size = w.heap.size + 1 + 1 + 1:=by simp
 have hsz2:((w.alloc (.cells (dcells vs).toArray 28)).alloc (.cells (dcells noV).toArray 28)).heap.size = w.heap.size + 1 + 1:=by simp
 unfold dv at hk
 unfold dv
 have hdc:(dcells vs).toArray = #[(vs 0).1,(vs 0).2,(vs 1).1,(vs 1).2,(vs 2).1,(vs 2).2,(vs 3).1,(vs 3).2,(vs 4).1,(vs 4).2]:=rfl
 have hdn:(dcells noV).toArray = #[.slice none 0 0,.slice none 0 0,.slice none 0 0,.slice none 0 0,.slice none 0 0,.slice none 0 0,.slice none 0 0,.slice none 0 0,.slice none 0 0,.slice none 0 0]:=rfl
 rw [hdc]
 simp only [hdc,hdn] at hI0 hx0 hsz hsz2 hk
 refine calls_of_wp_marks Tryz.func58 rfl ?_
 simp only [Tryz.ntmps58,List.size_toArray,List.length_cons,List.length_nil,Nat.reduceAdd,Nat.reduceSub,Array.replicate_succ,Array.replicate_zero,List.push_toArray,List.append_toArray,List.nil_append,List.cons_append]
 go_wp2_with (go_at_call 76;refine (hk _).mono ?_;rintro e w' ⟨rfl,rfl⟩)
 generalize (((w.alloc (.cells #[(vs 0).1,(vs 0).2,(vs 1).1,(vs 1).2,(vs 2).1,(vs 2).2,(vs 3).1,(vs 3).2,(vs 4).1,(vs 4).2] 28)).alloc (.cells #[.slice none 0 0,.slice none 0 0,.slice none 0 0,.slice none 0 0,.slice none 0 0,.slice none 0 0,.slice none 0 0,.slice none 0 0,.slice none 0 0,.slice none 0 0] 28)).alloc (.cells #[(vs 0).1,(vs 0).2,(vs 1).1,(vs 1).2,(vs 2).1,(vs 2).2,(vs 3).1,(vs 3).2,(vs 4).1,(vs 4).2] 28)) = w1 at *
 have hsh:=hV.shape
 have HV:=hid (hV.ext hx0)
 have HV0:=hid hV
 have HS:=hid hS
 have hwz:=hx0.size
 have HXW:=hid hx0
 clear hk hx0 hdc hdn hV hS hsz2
 refine wp_overI rfl (enters_of Tryz.func109 (by kernel_rfl) rfl) (kinds_iter vs _ hsh)
  (by rintro k W args rfl;rfl) (fun k args=>Stab.pure _ _)
  (fun k W=>∃ ts,OwI w vs D k ts W) (fun q W=>False)
  (fun k=>Stab.ex fun ts=>OwI.stab _ _ _ _ _ _ hwz) (fun q=>Stab.pure _ _) (fun k W ⟨ts,h⟩=>h.arg) ⟨_,hI0⟩ ?_ ?_ ?_
 ·rintro k args W L hk hL ⟨ts0,hI0'⟩ rfl
  obtain ⟨a,n,c,b,m,d,hv,hT,hSl⟩:=HV0.out k hk
  obtain ⟨hD1,hD2,hD3⟩:=HS.out k hk
  obtain ⟨e1,e2⟩:=fst_eq hv
  rw [e1,e2]
  clear hsh hI0 hv e1 e2 hsz
  gi_wp2
  refine ⟨keeps_ext _ (Ext.alloc _ _),⟨ts0,hI0'.ext (Ext.alloc _ _)⟩,trivial,?_⟩
  have hb2:RowAt (W.alloc (.cells #[.slice a n c,.slice b m d] 25)) W.heap.size 25 [.slice a n c,.slice b m d]:=RowAt.new _ _ _
  rintro W2 hst ⟨ts,hI⟩ -
  replace hb2:=(hst _ (Stab.rowD _ _ _ _) hb2)
  obtain ⟨p1,p2,q1,q2⟩:=hb2.facts2
  replace hb2:=hb2.ext (Ext.drewN _ 1)
  replace hI:=hI.ext (Ext.drewN _ 1)
  have p1':=hb2.facts2.1
  have p2':=hb2.facts2.2.1
  have HT:=hid (hT.below hI.below (Nat.le_refl _))
  have HSl:=hid (hSl.below hI.below (Nat.le_refl _))
  have HI:=hid hI
  have f0:=hI.d.frozen (k * 2)
  clear hst hb2 hT hSl hI hI0' f0
  have hcall:∀ {f:Nat} {args:Array Value} {w:World} {R:Ending → World → Prop},Calls Tryz.prog f args w R → CallsIn (Fence.wide.inRound L) 0 Tryz.prog f args w R:=fun h=>(callsIn_wide (n:=0)).2 h
  gi_wp2_with fail
  clear HV HV0 HS hwz HXW hD3 q1 q2 hL
  generalize Value.agg #[(vs 0).1,(vs 0).2,(vs 1).1,(vs 1).2,(vs 2).1,(vs 2).2,(vs 3).1,(vs 3).2,(vs 4).1,(vs 4).2] = dvv
  refine wpIn_region_gro groOwn [0,1,4,8,2,5,3,6,7,9,10] hmo (by kernel_rfl) (by kernel_rfl) rfl (by kernel_rfl) (fun _ _ _ _ _ h=>h) ?_
  replace p1':W2.drew.cell? _ = _:=p1'
  replace p2':W2.drew.cell? _ = _:=p2'
  repeat (first
   | (refine groL_pure rfl rfl ?_;intro K hK;go_simp;refine hK _ ?_;clear hK K)
   | (refine groL_read rfl rfl ?_;intro K S hS hK;go_simp;refine hK _ ?_;clear hK K hS S)
   | (refine groL_read rfl rfl ?_;intro K S hS hK;go_simp;refine ⟨hS _ ?_,hK _ ?_⟩;(clear hK K hS S;intro w' hx';have hce:=ext_some hx';go_simp);clear hK K hS S)
   | (refine groL_write rfl rfl ?_;intro K hK;go_simp;refine hK _ _ ?_;clear hK K))
  refine groL_grow rfl rfl ?_
  intro K hK
  go_simp
  (refine (cloneS _ (D k).1 _ HT.out (by omega)).mono ?_;rintro e wa ⟨ua,ca,rfl,hoa,hxa⟩)
  go_simp
  refine hK _ _ ⟨hxa,?_⟩
  clear hK K
  refine groL_grow rfl rfl ?_
  intro K hK
  go_simp
  (refine (cloneI _ (D k).2 _ (HSl.out.ext hxa) (by omega)).mono ?_;rintro e wb ⟨ub,cb,rfl,hob,hxb⟩)
  go_simp
  refine hK _ _ ⟨hxb,?_⟩
  clear hK K
  have hIb:=(HI.out.ext hxa).ext hxb
  have r0:=hIb.d.cell (i:=k * 2) (dcells_at ts hk).1
  have r1:=hIb.d.cell (i:=k * 2 + 1) (dcells_at ts hk).2
  have f0:=hIb.d.frozen (k * 2)
  have f1:=hIb.d.frozen (k * 2 + 1)
  clear hIb
  have hki:(k:Int) < 5:=by omega
  repeat (first
   | (refine groL_pure rfl rfl ?_;intro K hK;go_simp;refine hK _ ?_;clear hK K)
   | (refine groL_read rfl rfl ?_;intro K S hS hK;go_simp;refine hK _ ?_;clear hK K hS S)
   | (refine groL_read rfl rfl ?_;intro K S hS hK;go_simp;refine ⟨hS _ ?_,hK _ ?_⟩;(clear hK K hS S;intro w' hx';have hce:=ext_some hx';go_simp);clear hK K hS S)
   | (refine groL_write rfl rfl ?_;intro K hK;go_simp;refine hK _ _ ?_;clear hK K))
  refine groL_nil ?_
  have HN:=hid (HI.out.next hk hxa hoa hxb hob w1.heap.size)
  gi_wp2
  exact ⟨(keeps_ext _ (Ext.drewN W2 1)).trans HN.out.1,_,HN.out.2⟩
 ·rintro Dd W hD ⟨ts,hI⟩ hdf
  obtain ⟨A,hA1,hA2⟩:=heads (vs:=ts) (fun i hi=>by obtain ⟨a,c,b,d,e,_⟩:=(hI.own i hi).pair;exact ⟨_,_,_,_,_,_,e⟩)
  have hd:=hI.d
  rw [hA2] at hd
  obtain ⟨c0,c1,c2,c3,c4,c5,c6,c7,c8,c9⟩:=hd.facts10
  obtain ⟨d0,d1,d2,d3,d4,d5,d6,d7,d8,d9⟩:=RowAt.facts10 (vs:=noV) hI.out
  obtain ⟨g0,g1,g2,g3,g4,g5,g6,g7,g8,g9⟩:=hI.out.facts10f
  have HI:=hid hI
  clear hI0 hsh hI hd
  simp only [noV] at d0 d1 d2 d3 d4 d5 d6 d7 d8 d9
  simp only [hv] at c0 c1 c2 c3 c4 c5 c6 c7 c8 c9
  go_wp2
  rw [set10]
  clear d0 d1 d2 d3 d4 d5 d6 d7 d8 d9 c0 c1 c2 c3 c4 c5 c6 c7 c8 c9 g0 g1 g2 g3 g4 g5 g6 g7 g8 g9
  have hro:=row_set10 (hv A) HI.out.out
  have hwl:=HI.out.out.lt
  have hD2:w.heap.size + 1 + 1 + 1 ≤ Dd:=by omega
  have hdf':(setL W (w.heap.size + 1) 0 (dcells (hv A))).heap[Dd]? = some (.deferred (some [])):=(heap_setL_ne (by omega) _ _ _).trans hdf
  have hfin:DicOwn w.heap.size ((setL W (w.heap.size + 1) 0 (dcells (hv A))).putObj Dd (.deferred none)) (hv A) D:=fun i hi=>by rw [← hA1 i hi];exact tab_mark ((((HI.out.own i hi).setL (by omega) _ 0).base (by omega))) hdf'
  have hbf:=below_mark (D:=Dd) (below_setL (Nat.le_succ w.heap.size) (dcells (hv A)) 0 HI.out.below) (by omega)
  obtain ⟨q0,q1,q2,q3,q4,q5,q6,q7,q8,q9⟩:=RowAt.facts10 (row_mark hro hdf')
  refine leave_markedC hdf' (v:=dv (hv A)) ?_ ⟨_,rfl,hfin,hbf⟩
  unfold dv dcells hv at *
  simp [results,Tryz.results58,go_sem,q0,q1,q2,q3,q4,q5,q6,q7,q8,q9]
 ·rintro _ _ _ _ ⟨⟩
end

/- A dictionary without names. -/
section
open Go.RowKit Go.Shelf Go.Sort
attribute [local go_sem] Oper.semAt_some wide_fn wide_depth
def newD:Dic:=fun _=>([],List.replicate 8 0)
structure NeI (w:World) (D:Dic) (k:Nat) (ts:Nat → Value × Value) (W:World):Prop where
 below:Ext w W
 out:RowAt W w.heap.size 28 (dcells noV)
 d:RowAt W (w.heap.size + 1) 28 (dcells ts)
 own:∀ i,i < k → TabOwn (w.heap.size + 1 + 1) W (.agg #[(ts i).1,(ts i).2]) (D i).1 (D i).2
theorem NeI.next {w:World} {D:Dic} {k:Nat} {ts:Nat → Value × Value} {W wb:World} (h:NeI w D k ts W) (hk:k < 5) {v:Value} (hx:Ext W wb) (ht:TabOwn W.heap.size wb v (D k).1 (D k).2) :
 ∃ x y,v = .agg #[x,y] ∧ NeI w D (k + 1) (upd ts k (x,y)) ((wb.setCell ⟨w.heap.size + 1,k * 2,none⟩ x).setCell ⟨w.heap.size + 1,k * 2 + 1,none⟩ y):=by
 obtain ⟨a,n,c,b,m,d,rfl,h1,h2⟩:=ht
 have hz:=h.d.lt
 refine ⟨_,_,rfl,?_,?_,row_upd (h.d.ext hx) hk _ _,?_⟩
 ·exact ((h.below.trans hx).setCell (p:=⟨w.heap.size + 1,k * 2,none⟩) (Nat.le_succ _) _).setCell (p:=⟨w.heap.size + 1,k * 2 + 1,none⟩) (Nat.le_succ _) _
 ·exact (RowAt.set_ne (RowAt.set_ne (h.out.ext hx) (by omega)) (by omega))
 ·intro i hi
  by_cases e:i = k
  ·subst e
   rw [upd_at]
   refine (TabOwn.setL (g:=w.heap.size + 1) ?_ (by omega) [_] _).setL (by omega) [_] _
   exact ⟨_,_,_,_,_,_,rfl,own_base h1 (by omega),own_base h2 (by omega)⟩
  ·rw [upd_ne _ _ e]
   exact (((h.own i (by omega)).ext hx).setL (by omega) [_] _).setL (by omega) [_] _
set_option maxHeartbeats 1000000 in
theorem dnew_any (w:World):Calls Tryz.prog 73 #[] w fun e w'=>∃ us,e = .returned (dv us) ∧ DicOwn w.heap.size w' us newD ∧ Ext w w':=by
 have hI0:NeI w newD 0 noV ((w.alloc (.cells (dcells noV).toArray 28)).alloc (.cells (dcells noV).toArray 28)):=⟨(Ext.alloc _ _).trans (Ext.alloc _ _),(RowAt.new w _ (dcells noV)).ext (Ext.alloc _ _),row_at (by simp),fun i h=>by omega⟩
 have hdn:(dcells noV).toArray = #[.slice none 0 0,.slice none 0 0,.slice none 0 0,.slice none 0 0,.slice none 0 0,.slice none 0 0,.slice none 0 0,.slice none 0 0,.slice none 0 0,.slice none 0 0]:=rfl
 rw [hdn] at hI0
 have HI0:=hid hI0
 clear hI0 hdn
 go_enter Tryz.func73,Tryz.ntmps73
 go_upto_region 2 with fail
 replace HI0:=HI0.out
 generalize ((w.alloc (.cells #[.slice none 0 0,.slice none 0 0,.slice none 0 0,.slice none 0 0,.slice none 0 0,.slice none 0 0,.slice none 0 0,.slice none 0 0,.slice none 0 0,.slice none 0 0] 28)).alloc (.cells #[.slice none 0 0,.slice none 0 0,.slice none 0 0,.slice none 0 0,.slice none 0 0,.slice none 0 0,.slice none 0 0,.slice none 0 0,.slice none 0 0,.slice none 0 0] 28)) = w1 at *
 go_wp2_with fail
 go_loopg [3] 5 (fun g i wr=>∃ (k:Nat) (ts:Nat → Value × Value),k ≤ 5 ∧ g = 5 - k ∧ i = .int .i64 k ∧ NeI w newD k ts wr)
 case atStart=>exact ⟨0,_,Nat.zero_le _,rfl,rfl,HI0⟩
 case round =>
  obtain ⟨k,ts,hk,hg,rfl,hI⟩:=hrel
  have HI:=hid hI
  have Hg:=hid hg
  clear hI hg HI0
  by_cases hlt:k < 5
  ·go_wp2_with fail
   refine (new_any _).mono ?_
   rintro e w2 ⟨v,rfl,ht,hx2⟩
   obtain ⟨x,y,rfl,hN⟩:=HI.out.next hlt hx2 ht
   have hd:=HI.out.d.ext hx2
   have r0:=hd.cell (i:=k * 2) (dcells_at ts hlt).1
   have r1:=hd.cell (i:=k * 2 + 1) (dcells_at ts hlt).2
   have f0:=hd.frozen (k * 2)
   have f1:=hd.frozen (k * 2 + 1)
   obtain ⟨a,n,c,b,m,d,e,_,_⟩:=ht
   cases e
   have HN:=hid hN
   have hki:(k:Int) < 5:=by omega
   clear hN hd
   go_wp2_with fail
   go_roundg (5 - (k + 1))
   case measure=>have:=Hg.out;omega
   case rel=>exact ⟨k + 1,_,by omega,rfl,by go_num,HN.out⟩
  ·obtain rfl:k = 5:=by omega
   obtain ⟨A,hA1,hA2⟩:=heads (vs:=ts) (fun i hi=>by obtain ⟨a,c,b,d,e,_⟩:=(HI.out.own i hi).pair;exact ⟨_,_,_,_,_,_,e⟩)
   have hd:=HI.out.d
   rw [hA2] at hd
   obtain ⟨c0,c1,c2,c3,c4,c5,c6,c7,c8,c9⟩:=hd.facts10
   obtain ⟨d0,d1,d2,d3,d4,d5,d6,d7,d8,d9⟩:=RowAt.facts10 (vs:=noV) HI.out.out
   obtain ⟨g0,g1,g2,g3,g4,g5,g6,g7,g8,g9⟩:=HI.out.out.facts10f
   simp only [noV] at d0 d1 d2 d3 d4 d5 d6 d7 d8 d9
   simp only [hv] at c0 c1 c2 c3 c4 c5 c6 c7 c8 c9
   clear hd
   go_wp2
   rw [set10]
   clear d0 d1 d2 d3 d4 d5 d6 d7 d8 d9 c0 c1 c2 c3 c4 c5 c6 c7 c8 c9 g0 g1 g2 g3 g4 g5 g6 g7 g8 g9
   have hro:=row_set10 (hv A) HI.out.out
   have hfin:DicOwn w.heap.size (setL wr w.heap.size 0 (dcells (hv A))) (hv A) newD:=fun i hi=>by rw [← hA1 i hi];exact (((HI.out.own i hi).setL (by omega) _ 0).base (by omega))
   have hbf:=below_setL (Nat.le_refl w.heap.size) (dcells (hv A)) 0 HI.out.below
   obtain ⟨q0,q1,q2,q3,q4,q5,q6,q7,q8,q9⟩:=RowAt.facts10 hro
   refine bodyPost_ret (v:=dv (hv A)) ?_ rfl ⟨_,rfl,hfin,hbf⟩
   unfold dv dcells hv at *
   simp [results,Tryz.results73,go_sem,q0,q1,q2,q3,q4,q5,q6,q7,q8,q9]
end

/- Names are put, one behind the other. -/
section
open Go.RowKit Go.Shelf Go.Sort
attribute [local go_sem] Oper.semAt_some wide_fn wide_depth
def dputF (T:List ByteArray) (S:List Int) (s:ByteArray):Option (List ByteArray × List Int × Int):=if findF T s < 0 ∧ 128 ≤ T.length then none else putF T S s
def putsF:List ByteArray → List ByteArray → List Int → Int → Option (List ByteArray × List Int × Int)
 | [],T,S,n=>some (T,S,n)
 | s :: l,T,S,n=>match dputF T S s with
  | none=>none
  | some (T',S',n')=>putsF l T' S' n'
def PutsPost (B:Nat) (w:World) (D:Dic) (k:Nat) (r:Option (List ByteArray × List Int × Int)) (e:Ending) (w':World):Prop:=Ext w w' ∧
 match r with
 | some (T,S,n)=>∃ us,e = .returned (.tuple #[dv us,.int .i64 n,.int .i64 0]) ∧ DicOwn B w' us (upd D k (T,S))
 | none=>e = .returned (.tuple #[dv noV,.int .i64 0,.int .i64 6])
def Cur (B C:Nat) (w W:World) (v:Value × Value) (T:List ByteArray) (S:List Int):Prop:=TabOwn B w (.agg #[v.1,v.2]) T S ∨ TabOwn C W (.agg #[v.1,v.2]) T S
structure PuI (B:Nat) (w:World) (vs:Nat → Value × Value) (k:Nat) (T:List ByteArray) (S:List Int) (ts:Nat → Value × Value) (W:World):Prop where
 ext:Ext w W
 out:RowAt W (w.heap.size + 1) 28 (dcells noV)
 d:RowAt W w.heap.size 28 (dcells ts)
 rest:∀ i,i ≠ k → ts i = vs i
 cur:Cur B (w.heap.size + 1 + 1) w W (ts k) T S
theorem PuI.grow {B:Nat} {w:World} {vs:Nat → Value × Value} {k:Nat} {T:List ByteArray} {S:List Int} {ts:Nat → Value × Value} {W W':World} (h:PuI B w vs k T S ts W) (hx:Ext W W'):PuI B w vs k T S ts W' :=
 ⟨h.ext.trans hx,h.out.ext hx,h.d.ext hx,h.rest,h.cur.imp id (fun h=>h.ext hx)⟩
theorem PuI.view {B:Nat} {w:World} {vs:Nat → Value × Value} {k:Nat} {T:List ByteArray} {S:List Int} {ts:Nat → Value × Value} {W:World} (h:PuI B w vs k T S ts W) :
 ∃ a c b d,ts k = (.slice a T.length c,.slice b S.length d) ∧ Strs W (.slice a T.length c) T ∧ Ints W .i64 (.slice b S.length d) S:=by
 rcases h.cur with h1 | h1
 ·obtain ⟨a,c,b,d,e,o1,o2⟩:=h1.pair
  exact ⟨a,c,b,d,e,(Sl.of_own (own_ext o1 h.ext)),(Sl.of_own (own_ext o2 h.ext))⟩
 ·obtain ⟨a,c,b,d,e,o1,o2⟩:=h1.pair
  exact ⟨a,c,b,d,e,(Sl.of_own o1),(Sl.of_own o2)⟩
theorem PuI.next {B:Nat} {w:World} {vs:Nat → Value × Value} {k:Nat} {T T':List ByteArray} {S S':List Int} {ts:Nat → Value × Value} {W:World} (h:PuI B w vs k T S ts W) (hk:k < 5) {x y:Value} {b:Nat} (hb:w.heap.size + 1 + 1 ≤ b)
 (ht:TabOwn b W (.agg #[x,y]) T' S'):PuI B w vs k T' S' (upd ts k (x,y)) ((W.setCell ⟨w.heap.size,k * 2,none⟩ x).setCell ⟨w.heap.size,k * 2 + 1,none⟩ y):=by
 refine ⟨(h.ext.setCell (p:=⟨w.heap.size,k * 2,none⟩) (Nat.le_refl _) _).setCell (p:=⟨w.heap.size,k * 2 + 1,none⟩) (Nat.le_refl _) _,?_,row_upd h.d hk _ _,fun i hi=>by rw [upd_ne _ _ hi];exact h.rest i hi,.inr ?_⟩
 ·exact (RowAt.set_ne (RowAt.set_ne h.out (by omega)) (by omega))
 ·rw [upd_at]
  exact ((ht.base hb).setL (by omega) [_] _).setL (by omega) [_] _
theorem PuI.fin {B:Nat} {w:World} {vs:Nat → Value × Value} {D:Dic} {k:Nat} {T:List ByteArray} {S:List Int} {ts:Nat → Value × Value} {W:World} (h:PuI B w vs k T S ts W) (hV:DicOwn B w vs D) (hB:B ≤ w.heap.size) (xs:List Value) :
 DicOwn B (setL W (w.heap.size + 1) 0 xs) ts (upd D k (T,S)):=fun i hi=>by
 by_cases e:i = k
 ·subst e
  rw [upd_at]
  rcases h.cur with h1 | h1
  ·exact (h1.ext (below_setL (Nat.le_succ _) xs 0 h.ext))
  ·exact (h1.setL (by omega) xs 0).base (by omega)
 ·rw [upd_ne _ _ e,h.rest i e]
  exact (hV i hi).ext (below_setL (Nat.le_succ _) xs 0 h.ext)
theorem dput_any (B:Nat) (vs:Nat → Value × Value) (D:Dic) (k:Nat) (v3:Value) (l:List ByteArray) (w:World) (hB:B ≤ w.heap.size) (hV:DicOwn B w vs D) (hk:k < 5) (hok:TabOK (D k).1 (D k).2) (hSz:(D k).2.length ≤ 4096) (hTs:∀ s ∈ (D k).1,s.size ≤ 9223372036854775807)
 (hL:Strs w v3 l) (hls:∀ s ∈ l,s.size ≤ 9223372036854775807) :
 Calls Tryz.prog 57 #[dv vs,.int .i64 k,v3] w (PutsPost B w D k (putsF l (D k).1 (D k).2 0)):=by
 obtain ⟨a3,c3,rfl,hc31,hc32⟩:=Sl.shape hL
 obtain ⟨A0,hA01,hA02⟩:=heads (vs:=vs) (fun i hi=>by obtain ⟨a,c,b,d,e,_⟩:=(hV i hi).pair;exact ⟨_,_,_,_,_,_,e⟩)
 have hI0:PuI B w vs k (D k).1 (D k).2 vs ((w.alloc (.cells (dcells vs).toArray 28)).alloc (.cells (dcells noV).toArray 28)) :=
  ⟨(Ext.alloc _ _).trans (Ext.alloc _ _),row_at (by simp),(RowAt.new w _ (dcells vs)).ext (Ext.alloc _ _),fun _ _=>rfl,.inl (hV k hk)⟩
 have hdn:(dcells noV).toArray = #[.slice none 0 0,.slice none 0 0,.slice none 0 0,.slice none 0 0,.slice none 0 0,.slice none 0 0,.slice none 0 0,.slice none 0 0,.slice none 0 0,.slice none 0 0]:=rfl
 have hdc:(dcells vs).toArray = #[(vs 0).1,(vs 0).2,(vs 1).1,(vs 1).2,(vs 2).1,(vs 2).2,(vs 3).1,(vs 3).2,(vs 4).1,(vs 4).2]:=rfl
 unfold dv
 generalize hpf:putsF l (D k).1 (D k).2 0 = pf
 have Hpf:=hid hpf
 have Hls:=hid hls
 have Hok:=hid hok
 have HTs:=hid hTs
 have HSz:=hid hSz
 have HV:=hid hV
 have HL:=hid hL
 rw [hdn,hdc] at hI0
 rw [hdc]
 have HI0:=hid hI0
 clear hI0 hdn hdc hpf hls hok hTs hSz hV hL hA01 hA02
 go_enter Tryz.func57,Tryz.ntmps57
 go_upto_region 1 with fail
 replace HI0:=HI0.out
 generalize Value.agg #[(vs 0).1,(vs 0).2,(vs 1).1,(vs 1).2,(vs 2).1,(vs 2).2,(vs 3).1,(vs 3).2,(vs 4).1,(vs 4).2] = dvv
 generalize ((w.alloc (.cells #[(vs 0).1,(vs 0).2,(vs 1).1,(vs 1).2,(vs 2).1,(vs 2).2,(vs 3).1,(vs 3).2,(vs 4).1,(vs 4).2] 28)).alloc (.cells #[.slice none 0 0,.slice none 0 0,.slice none 0 0,.slice none 0 0,.slice none 0 0,.slice none 0 0,.slice none 0 0,.slice none 0 0,.slice none 0 0,.slice none 0 0] 28)) = w1 at *
 replace HI0:=hid HI0
 have hki:(k:Int) < 5:=by omega
 go_wp2_with fail
 go_loopg [9,20] l.length (fun g id i wr=>∃ (j:Nat) (T:List ByteArray) (S:List Int) (n:Int) (ts:Nat → Value × Value),j ≤ l.length ∧ g = l.length - j ∧ i = .int .i64 j ∧ id = .int .i64 n ∧
  putsF (l.drop j) T S n = pf ∧ TabOK T S ∧ (∀ s ∈ T,s.size ≤ 9223372036854775807) ∧ S.length ≤ 4096 ∧ PuI B w vs k T S ts wr)
 case atStart=>exact ⟨0,_,_,0,_,Nat.zero_le _,rfl,rfl,rfl,Hpf.out,Hok.out,HTs.out,HSz.out,HI0.out⟩
 case round =>
  obtain ⟨j,T,S,n,ts,hj,hg,rfl,rfl,hall,hokT,hTsT,hSzT,hI⟩:=hrel
  have HI:=hid hI
  have Hg:=hid hg
  have Hall:=hid hall
  have HokT:=hid hokT
  have HTsT:=hid hTsT
  clear hI hg HI0 hall hokT hTsT
  by_cases hlt:j < l.length
  ·obtain ⟨bl,ol,rfl,cl⟩:=(HL.out.ext HI.out.ext).at_ hlt
   obtain ⟨a,c,b,d,hv,hT,hS⟩:=HI.out.view
   obtain ⟨e1,e2⟩:=fst_eq hv
   have p1:=HI.out.d.cell (i:=k * 2) (dcells_at ts hk).1
   have p2:=HI.out.d.cell (i:=k * 2 + 1) (dcells_at ts hk).2
   have f1:=HI.out.d.frozen (k * 2)
   have f2:=HI.out.d.frozen (k * 2 + 1)
   rw [e1] at p1
   rw [e2] at p2
   have hs:=Hls.out _ (List.getElem_mem hlt)
   have hdr:l.drop j = l[j] :: l.drop (j + 1):=List.drop_eq_getElem_cons hlt
   have Hall':Hid (putsF (l[j] :: l.drop (j + 1)) T S n = pf):=hid (by rw [← hdr];exact Hall.out)
   generalize l[j] = s at *
   have HT:=hid hT
   have HS:=hid hS
   have Hs:=hid hs
   have hbx:RowAt (wr.alloc (.cells #[.slice a T.length c,.slice b S.length d] 25)) wr.heap.size 25 [.slice a T.length c,.slice b S.length d]:=RowAt.new _ _ _
   clear hT hS hs hv e1 e2 hdr Hall
   have hdp:dputF T S s = if findF T s < 0 ∧ 128 ≤ T.length then none else putF T S s:=rfl
   have hfp:∀ w',Ext wr w' → Calls Tryz.prog 101 #[.agg #[.slice a T.length c,.slice b S.length d],.string s] w' fun e w''=>e = .returned (.tuple #[.int .i64 (max (findF T s) 0),.bool (decide (0 ≤ findF T s))]) ∧ Ext w' w'' :=
    fun w' hx=>find_yes T S s a _ c b _ d _ (HT.out.ext hx) (HS.out.ext hx) (by omega) HTsT.out Hs.out HokT.out
   have hpp:∀ w',Ext wr w' → Calls Tryz.prog 102 #[.agg #[.slice a T.length c,.slice b S.length d],.string s] w' (PutPost w' (putF T S s)) :=
    fun w' hx=>put_yes T S s a _ c b _ d _ (HT.out.ext hx) (HS.out.ext hx) (by omega) HTsT.out Hs.out HokT.out
   have hmore:¬ (findF T s < 0 ∧ 128 ≤ T.length) → ∃ T' S' n',putF T S s = some (T',S',n') ∧ TabOK T' S' ∧ (∀ x ∈ T',x.size ≤ 9223372036854775807) ∧ S'.length ≤ 4096:=fun h=>by
    obtain ⟨T',S',n',hp⟩:∃ T' S' n',putF T S s = some (T',S',n'):=by
     unfold putF
     split
     ·exact ⟨_,_,_,rfl⟩
     ·rw [if_neg (by omega)];exact ⟨_,_,_,rfl⟩
    obtain ⟨h1,h2,h3,_⟩:=putF_ok HokT.out hp
    exact ⟨T',S',n',hp,h1,fun x hx=>by rcases h2 x hx with h | rfl;exact HTsT.out _ h;exact Hs.out,by omega⟩
   have HFP:=hid hfp
   have HPP:=hid hpp
   have HM:=hid hmore
   have HDP:=hid hdp
   generalize findF T s = f at *
   clear hfp hpp hmore hdp
   by_cases hcase:f < 0 ∧ 128 ≤ T.length
   ·have Hpfn:Hid (pf = none):=hid (by rw [← Hall'.out];unfold putsF;rw [HDP.out,if_pos hcase])
    have hd0:decide (0 ≤ f) = false:=by simp;omega
    have hd1:decide ((128:Int) ≤ (T.length:Int)) = true:=by simp;omega
    clear hcase
    go_wp2_with fail
    refine (HFP.out _ (Ext.alloc _ _)).mono ?_
    rintro e w2 ⟨rfl,hx2⟩
    obtain ⟨q1,q2,_,_⟩:=(hbx.ext hx2).facts2
    rw [hd0]
    have hI2:=HI.out.grow ((Ext.alloc _ _).trans hx2)
    obtain ⟨d0,d1,d2,d3,d4,d5,d6,d7,d8,d9⟩:=RowAt.facts10 (vs:=noV) hI2.out
    obtain ⟨g0,g1,g2,g3,g4,g5,g6,g7,g8,g9⟩:=hI2.out.facts10f
    have HI2:=hid hI2
    clear hI2 hd0 hbx p1 p2 f1 f2
    simp only [noV] at d0 d1 d2 d3 d4 d5 d6 d7 d8 d9
    go_wp2_with fail
    rw [set10]
    clear d0 d1 d2 d3 d4 d5 d6 d7 d8 d9 g0 g1 g2 g3 g4 g5 g6 g7 g8 g9
    obtain ⟨q0,q1,q2,q3,q4,q5,q6,q7,q8,q9⟩:=RowAt.facts10 (row_set10 noV HI2.out.out)
    unfold dcells noV at q0 q1 q2 q3 q4 q5 q6 q7 q8 q9
    dsimp only at q0 q1 q2 q3 q4 q5 q6 q7 q8 q9
    refine bodyPost_ret (v:=.tuple #[dv noV,.int .i64 0,.int .i64 6]) (by unfold dv dcells noV;simp [results,Tryz.results57,go_sem,q0,q1,q2,q3,q4,q5,q6,q7,q8,q9]) rfl ⟨below_setL (Nat.le_succ _) (dcells noV) 0 HI2.out.ext,?_⟩
    rw [Hpfn.out]
   ·obtain ⟨T',S',n',hp,hok',hTs',hSz'⟩:=HM.out hcase
    have Hall2:Hid (putsF (l.drop (j + 1)) T' S' n' = pf):=hid (by rw [← Hall'.out];conv=>rhs;unfold putsF;rw [HDP.out,if_neg hcase,hp])
    have HP:Hid (∀ w',Ext wr w' → Calls Tryz.prog 102 #[.agg #[.slice a T.length c,.slice b S.length d],.string s] w' fun e w''=>Ext w' w'' ∧ ∃ v,e = .returned (.tuple #[v,.int .i64 n',.int .i64 0]) ∧ TabOwn w'.heap.size w'' v T' S'):=hid (fun w' hx=>(HPP.out w' hx).mono fun e w'' h=>by
     obtain ⟨h1,h2⟩:=h
     rw [hp] at h2
     exact ⟨h1,h2⟩)
    have Hok':=hid hok'
    have HTs':=hid hTs'
    clear HPP HM HDP Hall' hp hok' hTs'
    have hd01:decide (0 ≤ f) = true ∨ (decide (0 ≤ f) = false ∧ decide ((128:Int) ≤ (T.length:Int)) = false):=by
     by_cases h:0 ≤ f
     ·exact .inl (by simpa using h)
     ·exact .inr ⟨by simpa using h,by simp;omega⟩
    clear hcase
    go_wp2_with fail
    refine (HFP.out _ (Ext.alloc _ _)).mono ?_
    rintro e w2 ⟨rfl,hx2⟩
    obtain ⟨q1,q2,_,_⟩:=(hbx.ext hx2).facts2
    rcases hd01 with hd | ⟨hd,hd1⟩
    all_goals
     rw [hd]
     clear hd
     go_wp2_with fail
     refine (HP.out _ ((Ext.alloc _ _).trans hx2)).mono ?_
     rintro e w3 ⟨hx3,v,rfl,ht⟩
     obtain ⟨a',n1,c',b',m1,d',rfl,hto1,hto2⟩:=ht
     have hxr:Ext wr (w3.alloc (.cells #[.slice a' n1 c',.slice b' m1 d'] 25)):=(((Ext.alloc _ _).trans hx2).trans hx3).trans (Ext.alloc _ _)
     have hI3:=HI.out.grow hxr
     have hsz2:=hI3.ext.size
     have hn3:=hI3.next hk (x:=.slice a' n1 c') (y:=.slice b' m1 d') (b:=w2.heap.size) (by have:=((HI.out.grow ((Ext.alloc _ _).trans hx2)).out).lt;omega) (⟨_,_,_,_,_,_,rfl,own_ext hto1 (Ext.alloc _ _),own_ext hto2 (Ext.alloc _ _)⟩:TabOwn w2.heap.size _ _ T' S')
     have HN3:=hid hn3
     have y1:=hI3.d.cell (i:=k * 2) (dcells_at ts hk).1
     have y2:=hI3.d.cell (i:=k * 2 + 1) (dcells_at ts hk).2
     have z1:=hI3.d.frozen (k * 2)
     have z2:=hI3.d.frozen (k * 2 + 1)
     clear hn3 hI3 hxr p1 p2 f1 f2 hbx hto1 hto2
     go_wp2_with fail
     go_roundg (l.length - (j + 1))
     case measure=>have:=Hg.out;omega
     case rel=>exact ⟨j + 1,_,_,_,_,by omega,rfl,by go_num,rfl,Hall2.out,Hok'.out,HTs'.out,hSz',HN3.out⟩
  ·have hr:pf = some (T,S,n):=by rw [← Hall.out,List.drop_eq_nil_of_le (by omega)];rfl
   have Hr:=hid hr
   obtain ⟨a,c,b,d,hvk,_,_⟩:=HI.out.view
   obtain ⟨A,hA1,hA2⟩:=heads (vs:=ts) (fun i hi=>by
    by_cases e:i = k
    ·subst e;exact ⟨_,_,_,_,_,_,hvk⟩
    ·rw [HI.out.rest i e];obtain ⟨a,c,b,d,e,_⟩:=(HV.out i hi).pair;exact ⟨_,_,_,_,_,_,e⟩)
   have hd:=HI.out.d
   rw [hA2] at hd
   obtain ⟨c0,c1,c2,c3,c4,c5,c6,c7,c8,c9⟩:=hd.facts10
   obtain ⟨d0,d1,d2,d3,d4,d5,d6,d7,d8,d9⟩:=RowAt.facts10 (vs:=noV) HI.out.out
   obtain ⟨g0,g1,g2,g3,g4,g5,g6,g7,g8,g9⟩:=HI.out.out.facts10f
   simp only [noV] at d0 d1 d2 d3 d4 d5 d6 d7 d8 d9
   have HA:=hid hA1
   clear hd hr Hall hvk hA1 hA2
   unfold hv at c0 c1 c2 c3 c4 c5 c6 c7 c8 c9
   dsimp only at c0 c1 c2 c3 c4 c5 c6 c7 c8 c9
   go_wp2_with fail
   rw [set10]
   clear d0 d1 d2 d3 d4 d5 d6 d7 d8 d9 c0 c1 c2 c3 c4 c5 c6 c7 c8 c9 g0 g1 g2 g3 g4 g5 g6 g7 g8 g9
   have hro:=row_set10 (hv A) HI.out.out
   have hfin:DicOwn B (setL wr (w.heap.size + 1) 0 (dcells (hv A))) (hv A) (upd D k (T,S)):=fun i hi=>by rw [← HA.out i hi];exact HI.out.fin HV.out hB _ i hi
   have hbf:=below_setL (Nat.le_succ w.heap.size) (dcells (hv A)) 0 HI.out.ext
   obtain ⟨q0,q1,q2,q3,q4,q5,q6,q7,q8,q9⟩:=RowAt.facts10 hro
   refine bodyPost_ret (v:=.tuple #[dv (hv A),.int .i64 n,.int .i64 0]) ?_ rfl ⟨hbf,?_⟩
   ·unfold dv dcells hv at *
    simp [results,Tryz.results57,go_sem,q0,q1,q2,q3,q4,q5,q6,q7,q8,q9]
   ·rw [Hr.out]
    exact ⟨_,rfl,hfin⟩
end

end Go.Proofs.YtkmbnghghbfkdaaGreat
