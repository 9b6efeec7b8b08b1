/- The chapter's dictionary. -/
import Derived.Test.YtkmbnghghbfkdaaGreatGp37
set_option linter.unusedSimpArgs false
set_option linter.unusedVariables false
set_option maxHeartbeats 2000000
set_option maxRecDepth 100000
namespace Go.Proofs.YtkmbnghghbfkdaaGreat
open Go.Lib (hid)

section
open Go.RowKit Go.Shelf Go.Sort
attribute [local go_sem] Oper.semAt_some wide_fn wide_depth
theorem wpList_yes {P:Program} {ops:Array Oper} {rest:List Oper} {o:Oper} {a:Act} {w:World} {Q:Exit → Act → World → Prop} (hw:Region.wanted o (yielded ops a.tmps) = true)
 (h:∀ K:Act → World → Prop,(∀ a w,wpList P ops Q rest a w → K a w) → o.wp P a w K Q):wpList P ops Q (o :: rest) a w :=
 wpList_step fun K hK=>by rw [if_pos hw];exact h K hK
def pS:ByteArray:=⟨#[112]⟩
def knowsS:ByteArray:=⟨#[107,110,111,119,115]⟩
def ageS:ByteArray:=⟨#[97,103,101]⟩
def sevenS:ByteArray:=⟨#[55]⟩
def smW:List (Nat × ByteArray):=[(0,annS),(0,bobS),(1,pS),(2,knowsS),(3,ageS),(4,sevenS)]
def smC:List Value:=smW.flatMap fun x=>[.int .i64 x.1,.string x.2]
def smN:Nat → Nat → List ByteArray
 | 0=>fun _=>[]
 | k + 1=>upd (smN k) (smW.getD k (0,nilB)).1 (smN k (smW.getD k (0,nilB)).1 ++ [(smW.getD k (0,nilB)).2])
structure Dn (N:Nat → List ByteArray) (D:Dic):Prop where
 ok:DicOK D
 slots:∀ i,i < 5 → (D i).2.length ≤ 4096
 names:∀ i,i < 5 → (D i).1 = N i
theorem Dn.put {N:Nat → List ByteArray} {D:Dic} (h:Dn N D) {k:Nat} {s:ByteArray} (hk:k < 5) (hm:mayB k (bts s) = true) (hf:findF (N k) s < 0) (hl:(N k).length < 128) (hb:badB k (N k ++ [s]) = false) :
 ∃ D',putD D k s = .ok (D',((N k).length:Int)) ∧ Dn (upd N k (N k ++ [s])) D':=by
 have hn:=h.names k hk
 obtain ⟨S',e1,t1,l1⟩:=dputF_new (s:=s) (h.ok k hk).1 (h.slots k hk) (by rw [hn];exact hf) (by rw [hn];exact hl)
 refine ⟨upd D k ((D k).1 ++ [s],S'),?_,⟨h.ok.upd ⟨t1,by rw [List.length_append,hn];simp;omega,by rw [hn];exact hb⟩,?_,?_⟩⟩
 ·unfold putD
  rw [if_pos hm,Int.toNat_natCast,e1,hn]
 ·intro i hi
  by_cases e:i = k
  ·subst e;rw [upd_at];exact l1
  ·rw [upd_ne _ _ e];exact h.slots i hi
 ·intro i hi
  by_cases e:i = k
  ·subst e;rw [upd_at,upd_at,hn]
  ·rw [upd_ne _ _ e,upd_ne _ _ e];exact h.names i hi
theorem sm_conds:∀ k,k < 6 → (smW.getD k (0,nilB)).1 < 5 ∧ mayB (smW.getD k (0,nilB)).1 (bts (smW.getD k (0,nilB)).2) = true ∧ findF (smN k (smW.getD k (0,nilB)).1) (smW.getD k (0,nilB)).2 < 0 ∧ (smN k (smW.getD k (0,nilB)).1).length < 128 ∧ badB (smW.getD k (0,nilB)).1 (smN k (smW.getD k (0,nilB)).1 ++ [(smW.getD k (0,nilB)).2]) = false ∧ (smW.getD k (0,nilB)).2.size ≤ 100:=by
 intro k hk
 have hc:k = 0 ∨ k = 1 ∨ k = 2 ∨ k = 3 ∨ k = 4 ∨ k = 5:=by omega
 rcases hc with rfl | rfl | rfl | rfl | rfl | rfl <;> refine ⟨by decide,by decide,by decide,by decide,by decide,by decide⟩
theorem sm_cells (k:Nat) (hk:k < 6):smC[k * 2]? = some (.int .i64 ((smW.getD k (0,nilB)).1:Nat)) ∧ smC[k * 2 + 1]? = some (.string (smW.getD k (0,nilB)).2):=by
 have hc:k = 0 ∨ k = 1 ∨ k = 2 ∨ k = 3 ∨ k = 4 ∨ k = 5:=by omega
 rcases hc with rfl | rfl | rfl | rfl | rfl | rfl <;> exact ⟨rfl,rfl⟩
theorem DicOwn.turn {B g:Nat} {W W':World} {vs:Nat → Value × Value} {D:Dic} {xs:List Value} (h:DicOwn B W vs D) (hr:RowAt W g 28 xs) (hg:W.grownBy W' (some g)):DicOwn B W' vs D:=fun i hi=>by
 obtain ⟨a,n,c,b,m,d,e,h1,h2⟩:=h i hi
 exact ⟨a,n,c,b,m,d,e,own_turn h1 hr (by decide) hg,own_turn h2 hr (by decide) hg⟩
theorem newD_dn:Dn (smN 0) newD:=⟨newD_ok,newD_s,fun i hi=>rfl⟩
set_option maxHeartbeats 4000000 in
theorem small_any (w:World):Calls Tryz.prog 35 #[] w fun e w'=>∃ (A:Heads) (D:Dic),e = .returned (.tuple #[dv (hv A),.bool true]) ∧ DicOwn w.heap.size w' (hv A) D ∧ Dn (smN 6) D ∧ Ext w w':=by
 have hdn:(dcells noV).toArray = #[.slice none 0 0,.slice none 0 0,.slice none 0 0,.slice none 0 0,.slice none 0 0,.slice none 0 0,.slice none 0 0,.slice none 0 0,.slice none 0 0,.slice none 0 0]:=rfl
 have hr0:=RowAt.new w 28 (dcells noV)
 have hx0:=Ext.alloc w (.cells (dcells noV).toArray 28)
 rw [hdn] at hr0 hx0
 have H0:=hid hr0
 have HX:=hid hx0
 clear hr0 hx0 hdn
 go_enter Tryz.func35,Tryz.ntmps35
 go_upto_region 1 with fail
 generalize w.alloc (.cells #[.slice none 0 0,.slice none 0 0,.slice none 0 0,.slice none 0 0,.slice none 0 0,.slice none 0 0,.slice none 0 0,.slice none 0 0,.slice none 0 0,.slice none 0 0] 28) = w1 at *
 obtain ⟨y0,hy0⟩:∃ x,w.heap.size = x:=⟨_,rfl⟩
 have HY:=hid hy0
 rw [hy0] at H0
 simp only [hy0]
 clear hy0
 apply wp_region_lit
 refine wpList_plain rfl fun K1 hK1=>?_
 go_simp
 refine (dnew_any w1).mono ?_;rintro e w2 ⟨us,rfl,hus,hx2⟩
 go_simp
 refine hK1 _ _ ?_
 clear hK1 K1
 obtain ⟨A,hA1,hA2⟩:=heads (vs:=us) (fun i hi=>by obtain ⟨a,c,b,d,e,_⟩:=(hus i hi).pair;exact ⟨_,_,_,_,_,_,e⟩)
 have hus':DicOwn w1.heap.size w2 (hv A) newD:=fun i hi=>by rw [← hA1 i hi];exact hus i hi
 rw [show dv us = dv (hv A) from by unfold dv;rw [hA2]]
 unfold dv
 have HX2:=hid (HX.out.trans hx2)
 have hx2sz:y0 < w2.heap.size:=(H0.out.ext hx2).lt
 have HU:=hid (hus'.base HX.out.size)
 have G0:=hid (H0.out.ext hx2)
 clear hA1 hA2 hus hus' hx2 HX H0
 (refine wpList_plain rfl fun Y y'=>?_;go_simp;refine y' _ _ ?_;clear y' Y)
 have hax:=Ext.alloc w2 (.cells #[.slice none 0 0,.slice none 0 0,.slice none 0 0,.slice none 0 0,.slice none 0 0,.slice none 0 0,.slice none 0 0,.slice none 0 0,.slice none 0 0,.slice none 0 0] 28)
 have har:RowAt (w2.alloc (.cells #[.slice none 0 0,.slice none 0 0,.slice none 0 0,.slice none 0 0,.slice none 0 0,.slice none 0 0,.slice none 0 0,.slice none 0 0,.slice none 0 0,.slice none 0 0] 28)) w2.heap.size 28 (#[.slice none 0 0,.slice none 0 0,.slice none 0 0,.slice none 0 0,.slice none 0 0,.slice none 0 0,.slice none 0 0,.slice none 0 0,.slice none 0 0,.slice none 0 0]).toList:=RowAt.new _ _ _
 refine plain_store rfl _ _ _ rfl w2.heap.size (dcells (hv A)) rfl rfl har (by kernel_rfl) rfl ((by simp [dcells,hv,Value.oneCell'])) ?_
 have hex:Ext w2 ((w2.alloc (.cells #[.slice none 0 0,.slice none 0 0,.slice none 0 0,.slice none 0 0,.slice none 0 0,.slice none 0 0,.slice none 0 0,.slice none 0 0,.slice none 0 0,.slice none 0 0] 28)).setRow w2.heap.size (dcells (hv A)).toArray):=below_setRow hax (Nat.le_refl _) _
 have HEw3:=hid hex
 have HRy:=hid (har.setRow (dcells (hv A)))
 clear hax har hex
 go_simp
 generalize (w2.alloc (.cells #[.slice none 0 0,.slice none 0 0,.slice none 0 0,.slice none 0 0,.slice none 0 0,.slice none 0 0,.slice none 0 0,.slice none 0 0,.slice none 0 0,.slice none 0 0] 28)).setRow w2.heap.size (dcells (hv A)).toArray = w3 at *
 obtain ⟨y,hsy⟩:∃ x,w2.heap.size = x:=⟨_,rfl⟩
 rw [hsy] at HRy
 simp only [hsy]
 have HSy:=hid hsy
 clear hsy
 (refine wpList_plain rfl fun Y y'=>?_;go_simp;refine y' _ _ ?_;clear y' Y)
 apply wpList_nil
 have HX3:=hid (HX2.out.trans HEw3.out)
 have HU3:=hid (HU.out.ext HEw3.out)
 replace G0:=hid (G0.out.ext HEw3.out)
 have HRY:=hid (show RowAt w3 y 28 (dcells (hv A)) from HRy.out)
 have HYL:=hid (show w.heap.size ≤ y ∧ y0 < y by have:=HSy.out;have:=HX2.out.size;have:=HY.out;have:=(show RowAt w3 y0 28 _ from G0.out).lt;have:=hx2sz;omega)
 clear HEw3 HX2 HU HRy HSy
 have hxg:=Ext.alloc w3 (.cells #[.int .i64 0,.string ⟨#[97,110,110]⟩,.int .i64 0,.string ⟨#[98,111,98]⟩,.int .i64 1,.string ⟨#[112]⟩,.int .i64 2,.string ⟨#[107,110,111,119,115]⟩,.int .i64 3,.string ⟨#[97,103,101]⟩,.int .i64 4,.string ⟨#[55]⟩] 128)
 have hrg:RowAt (w3.alloc (.cells #[.int .i64 0,.string ⟨#[97,110,110]⟩,.int .i64 0,.string ⟨#[98,111,98]⟩,.int .i64 1,.string ⟨#[112]⟩,.int .i64 2,.string ⟨#[107,110,111,119,115]⟩,.int .i64 3,.string ⟨#[97,103,101]⟩,.int .i64 4,.string ⟨#[55]⟩] 128)) w3.heap.size 128 smC:=RowAt.new w3 128 smC
 have HXG:=hid hxg
 have HRG:=hid hrg
 clear hxg hrg
 go_upto_region 3 with fail
 generalize w3.alloc (.cells #[.int .i64 0,.string ⟨#[97,110,110]⟩,.int .i64 0,.string ⟨#[98,111,98]⟩,.int .i64 1,.string ⟨#[112]⟩,.int .i64 2,.string ⟨#[107,110,111,119,115]⟩,.int .i64 3,.string ⟨#[97,103,101]⟩,.int .i64 4,.string ⟨#[55]⟩] 128) = w4 at *
 obtain ⟨g,hg⟩:∃ x,w3.heap.size = x:=⟨_,rfl⟩
 rw [hg] at HRG
 simp only [hg]
 have HGN:=hid (show y < g by rw [← hg];exact HRY.out.lt)
 clear hg
 have HU4:=hid (HU3.out.ext HXG.out)
 have HX4:=hid (HX3.out.trans HXG.out)
 replace G0:=hid (G0.out.ext HXG.out)
 replace HRY:=hid (HRY.out.ext HXG.out)
 clear HXG HU3 HX3
 go_loopg [3,18] 6 (fun q ok i wr=>∃ (k:Nat) (A:Heads) (D:Dic),k ≤ 6 ∧ q = 6 - k ∧ i = .int .i64 k ∧ ok = .bool true ∧ Hid (Dn (smN k) D) ∧ Hid (DicOwn w.heap.size wr (hv A) D) ∧ Hid (RowAt wr y 28 (dcells (hv A))) ∧ Hid (RowAt wr g 128 smC) ∧ Hid (RowAt wr y0 28 (dcells noV)) ∧ Hid (Ext w wr))
 case atStart=>exact ⟨0,A,newD,Nat.zero_le _,rfl,rfl,rfl,hid newD_dn,HU4,HRY,HRG,G0,HX4⟩
 case round =>
  obtain ⟨k,B,D,hk,hq,rfl,rfl,HD,HU,HRB,HRT,HZ,HXR⟩:=hrel
  have Hq:=hid hq
  clear hq HU4 HX4 HRY HRG G0
  by_cases hlt:k < 6
  ·obtain ⟨k5,km,kf,kl,kb,ks⟩:=sm_conds k hlt
   obtain ⟨sc0,sc1⟩:=sm_cells k hlt
   obtain ⟨D',hput,hdn⟩:=HD.out.put k5 km kf kl kb
   have hpc:=fun w' (hx:Ext wr w')=>dPut_ok hput (hv B) w' ((HU.out.view).ext hx) (HD.out.ok.sizes HD.out.slots) (by omega) HD.out.ok
   have HPC:=hid hpc
   have HDN:=hid (show Dn (smN (k + 1)) D' from hdn)
   have c0:=HRT.out.cell sc0
   have c1:=HRT.out.cell sc1
   clear km kf kl kb hput hdn hpc sc0 sc1
   generalize (smN k (smW.getD k (0,nilB)).1).length = nn at *
   obtain ⟨kd,hkd⟩:∃ x,(smW.getD k (0,nilB)).1 = x:=⟨_,rfl⟩
   obtain ⟨s,hs⟩:∃ x,(smW.getD k (0,nilB)).2 = x:=⟨_,rfl⟩
   rw [hkd] at c0 HPC
   rw [hs] at c1 HPC
   clear hkd hs k5 ks
   have HAX:=hid (Ext.alloc wr (.cells #[.int .i64 kd,.string s] 128))
   have HAB:=hid (RowAt.new wr 128 [.int .i64 kd,.string s])
   go_upto_region 5 with fail
   replace HAB:Hid (RowAt (wr.alloc (.cells #[.int .i64 kd,.string s] 128)) wr.heap.size 128 [.int .i64 kd,.string s]):=HAB
   generalize wr.alloc (.cells #[.int .i64 kd,.string s] 128) = wb at *
   obtain ⟨t,ht⟩:∃ t,wr.heap.size = t:=⟨_,rfl⟩
   rw [ht] at HAB
   simp only [ht]
   clear ht c0 c1
   have e0:=HAB.out.cell (i:=0) rfl
   have e1:=HAB.out.cell (i:=1) rfl
   replace HRB:=hid (HRB.out.ext HAX.out)
   replace HRT:=hid (HRT.out.ext HAX.out)
   replace HZ:=hid (HZ.out.ext HAX.out)
   have HX2:=hid (HXR.out.trans HAX.out)
   clear HU HD
   unfold dv at HPC
   apply wp_region_lit
   refine plain_load rfl _ _ rfl y rfl _ _ (HRB.out) Tryz.underlying28 rfl (by kernel_rfl) ?_
   go_simp
   iterate 4 (refine wpList_plain rfl fun Y y'=>?_;go_simp;refine y' _ _ ?_;clear y' Y)
   refine wpList_plain rfl fun K1 hK1=>?_
   go_simp
   refine (HPC.out wb HAX.out).mono ?_;rintro e w5 ⟨A5,rfl,hu5,hx5⟩
   go_simp
   refine hK1 _ _ ?_
   clear hK1 K1
   clear e0 e1 HAB HPC HAX
   iterate 4 (refine wpList_plain rfl fun Y y'=>?_;go_simp;refine y' _ _ ?_;clear y' Y)
   replace HRB:=hid (HRB.out.ext hx5)
   replace HRT:=hid (HRT.out.ext hx5)
   replace HZ:=hid (HZ.out.ext hx5)
   have HU5:=hid (hu5.base HX2.out.size)
   have HX5:=hid (HX2.out.trans hx5)
   clear hu5 hx5 HX2 HXR
   (refine wpList_plain rfl fun Y y'=>?_;go_simp;refine y' _ _ ?_;clear y' Y)
   have hax:=Ext.alloc w5 (.cells #[.slice none 0 0,.slice none 0 0,.slice none 0 0,.slice none 0 0,.slice none 0 0,.slice none 0 0,.slice none 0 0,.slice none 0 0,.slice none 0 0,.slice none 0 0] 28)
   have har:RowAt (w5.alloc (.cells #[.slice none 0 0,.slice none 0 0,.slice none 0 0,.slice none 0 0,.slice none 0 0,.slice none 0 0,.slice none 0 0,.slice none 0 0,.slice none 0 0,.slice none 0 0] 28)) w5.heap.size 28 (#[.slice none 0 0,.slice none 0 0,.slice none 0 0,.slice none 0 0,.slice none 0 0,.slice none 0 0,.slice none 0 0,.slice none 0 0,.slice none 0 0,.slice none 0 0]).toList:=RowAt.new _ _ _
   refine plain_store rfl _ _ _ rfl w5.heap.size (dcells (hv A5)) rfl rfl har (by kernel_rfl) rfl ((by simp [dcells,hv,Value.oneCell'])) ?_
   have hex:Ext w5 ((w5.alloc (.cells #[.slice none 0 0,.slice none 0 0,.slice none 0 0,.slice none 0 0,.slice none 0 0,.slice none 0 0,.slice none 0 0,.slice none 0 0,.slice none 0 0,.slice none 0 0] 28)).setRow w5.heap.size (dcells (hv A5)).toArray):=below_setRow hax (Nat.le_refl _) _
   have HEw6:=hid hex
   have HRz:=hid (har.setRow (dcells (hv A5)))
   clear hax har hex
   go_simp
   generalize (w5.alloc (.cells #[.slice none 0 0,.slice none 0 0,.slice none 0 0,.slice none 0 0,.slice none 0 0,.slice none 0 0,.slice none 0 0,.slice none 0 0,.slice none 0 0,.slice none 0 0] 28)).setRow w5.heap.size (dcells (hv A5)).toArray = w6 at *
   obtain ⟨z,hsz⟩:∃ x,w5.heap.size = x:=⟨_,rfl⟩
   rw [hsz] at HRz
   simp only [hsz]
   have HSz:=hid hsz
   clear hsz
   iterate 2 (refine wpList_plain rfl fun Y y'=>?_;go_simp;refine y' _ _ ?_;clear y' Y)
   apply wpList_nil
   replace HRB:=hid (HRB.out.ext HEw6.out)
   replace HRT:=hid (HRT.out.ext HEw6.out)
   replace HZ:=hid (HZ.out.ext HEw6.out)
   have HU6:=hid (HU5.out.ext HEw6.out)
   have HX6:=hid (HX5.out.trans HEw6.out)
   have HRZ:=hid (show RowAt w6 z 28 (dcells (hv A5)) from HRz.out)
   clear HEw6 HU5 HX5 HRz
   go_upto_region 6 with fail
   apply wp_region_lit
   refine plain_load rfl _ _ rfl z rfl _ _ (HRZ.out) Tryz.underlying28 rfl (by kernel_rfl) ?_
   go_simp
   iterate 2 (refine wpList_plain rfl fun Y y'=>?_;go_simp;refine y' _ _ ?_;clear y' Y)
   iterate 2 (refine wpList_yes (by first|rfl|decide) fun Y y'=>?_;go_simp;refine y' _ _ ?_;clear y' Y)
   (refine wpList_plain rfl fun Y y'=>?_;go_simp;refine y' _ _ ?_;clear y' Y)
   refine plain_store rfl _ _ _ rfl y (dcells (hv A5)) rfl rfl (HRB.out) (by kernel_rfl) rfl ((by simp [dcells,hv,Value.oneCell'])) ?_
   go_simp
   have HU7:=hid (HU6.out.turn HRB.out (setRow_grown w6 y (dcells (hv A5)).toArray))
   have HX7:=hid (show Ext w (w6.setRow y (dcells (hv A5)).toArray) from below_setRow HX6.out HYL.out.1 _)
   have HT7:=hid ((setRow_other w6 y g (dcells (hv A5)).toArray (by have:=HGN.out;omega)).trans HRT.out)
   have HZ7:=hid ((setRow_other w6 y y0 (dcells (hv A5)).toArray (by have:=HYL.out;omega)).trans HZ.out)
   have HB7:=hid (HRB.out.setRow (dcells (hv A5)))
   clear HU6 HX6 HRT HZ HRB HRZ
   generalize w6.setRow y (dcells (hv A5)).toArray = w7 at *
   (refine wpList_plain rfl fun Y y'=>?_;go_simp;refine y' _ _ ?_;clear y' Y)
   apply wpList_nil
   have hk6:k ≤ 6:=by omega
   go_wp2_with fail
   go_roundg (6 - (k + 1))
   case measure=>have:=Hq.out;omega
   case rel=>exact ⟨k + 1,A5,D',by omega,rfl,by first | rfl | go_num,rfl,HDN,HU7,HB7,HT7,HZ7,HX7⟩
  ·obtain rfl:k = 6:=by omega
   go_upto_region 8 with fail
   apply wp_region_lit
   refine plain_load rfl _ _ rfl y rfl _ _ (HRB.out) Tryz.underlying28 rfl (by kernel_rfl) ?_
   go_simp
   (refine wpList_plain rfl fun Y y'=>?_;go_simp;refine y' _ _ ?_;clear y' Y)
   have HQD:=hid (HU.out.turn HZ.out (setRow_grown wr y0 (dcells (hv B)).toArray))
   refine plain_store rfl _ _ _ rfl y0 (dcells (hv B)) rfl rfl (HZ.out) (by kernel_rfl) rfl ((by simp [dcells,hv,Value.oneCell'])) ?_
   have HRR:=hid ((HZ.out).setRow (dcells (hv B)))
   have HXX:=hid (show Ext w ((wr).setRow y0 (dcells (hv B)).toArray) from below_setRow (HXR.out) ((Nat.le_of_eq HY.out)) _)
   go_simp
   generalize (wr).setRow y0 (dcells (hv B)).toArray = wend at *
   (refine wpList_plain rfl fun Y y'=>?_;go_simp;refine y' _ _ ?_;clear y' Y)
   apply wpList_nil
   go_wp2_with fail
   exact bodyPost_ret (results_row1 rfl rfl HRR.out Tryz.underlying28 rfl (by kernel_rfl)) rfl (⟨B,D,rfl,HQD.out,HD.out,HXX.out⟩)
end

/- What the chapter's pattern comes to: reckoned. -/
section
theorem idF_congr {D E:Dic} (h:∀ i,i < 5 → (D i).1 = (E i).1) (k:Int) (s:ByteArray):idF D k s = idF E k s:=by
 unfold idF
 split
 ·rename_i hk;rw [h k.toNat (by omega)]
 ·rfl
theorem argF_congr {D E:Dic} (h:∀ i,i < 5 → (D i).1 = (E i).1) (V:List ByteArray) (k:Bool) (s:ByteArray):argF D V k s = argF E V k s:=by
 unfold argF
 rw [idF_congr h]
theorem bndF_congr {D E:Dic} (h:∀ i,i < 5 → (D i).1 = (E i).1) (V:List ByteArray):bndF D V = bndF E V:=by
 funext a
 unfold bndF
 simp only [argF_congr h,idF_congr h]
theorem goalF_congr {D E:Dic} (h:∀ i,i < 5 → (D i).1 = (E i).1) (P:Pat):goalF D P = goalF E P:=by
 unfold goalF bndsF
 rw [bndF_congr h]
theorem nameO_congr {D E:Dic} (h:∀ i,i < 5 → (D i).1 = (E i).1) {k:Nat} (hk:k < 5) (q:Int):nameO D k q = nameO E k q:=by
 unfold nameO
 rw [h k hk]
theorem termF_congr {D E:Dic} (h:∀ i,i < 5 → (D i).1 = (E i).1) (V:List ByteArray) (a:Arg):termF D V a = termF E V a:=by
 unfold termF
 rw [nameO_congr h (by omega)]
theorem atmF_congr {D E:Dic} (h:∀ i,i < 5 → (D i).1 = (E i).1) (V:List ByteArray):atmF D V = atmF E V:=by
 funext b
 unfold atmF
 simp only [termF_congr h,nameO_congr h (show 1 < 5 by omega),nameO_congr h (show 2 < 5 by omega),nameO_congr h (show 3 < 5 by omega),nameO_congr h (show 4 < 5 by omega)]
theorem backF_congr {D E:Dic} (h:∀ i,i < 5 → (D i).1 = (E i).1) (G:Gol):backF D G = backF E G:=by
 unfold backF atmsF
 simp only [atmF_congr h,goalF_congr h]
def smD:Dic:=fun i=>(smN 6 i,[])
def xS:ByteArray:=⟨#[120]⟩
def eightS:ByteArray:=⟨#[56]⟩
def wkA (v:ByteArray):List Atm:=[⟨4,false,xS,knowsS,nilB,true,bobS⟩,⟨3,false,xS,ageS,v,false,nilB⟩]
def wkQ (v:ByteArray):Pat:=⟨wkA v,[],false,false,false,0,0,[]⟩
def wkG:Gol:=⟨[xS],[⟨3,0,⟨0,0⟩,⟨-1,1⟩⟩,⟨2,0,⟨-1,0⟩,⟨0,0⟩⟩],[0],false,false,false,0,0,[]⟩
theorem wkq_ok:(wkQ sevenS).okB = true:=by kernel_rfl
theorem wkq_ok8:(wkQ eightS).okB = true:=by kernel_rfl
theorem wkq_goal:goalF smD (wkQ sevenS) = some wkG:=by kernel_rfl
theorem wkq_bnds:(bndsF smD (varsS (wkQ sevenS).atoms) (wkQ sevenS).atoms).2 = true:=by kernel_rfl
theorem wkq_unk:(bndsF smD (varsS (wkQ eightS).atoms) (wkQ eightS).atoms).2 = false ∧ (bndsF smD (varsS (wkQ eightS).atoms) (wkQ eightS).atoms).1.length = 1:=⟨by kernel_rfl,by kernel_rfl⟩
theorem wkq_back:backF smD wkG = some (wkQ sevenS):=by kernel_rfl
theorem Dn.sm {D:Dic} (h:Dn (smN 6) D):∀ i,i < 5 → (D i).1 = (smD i).1:=h.names
theorem wk_of {D:Dic} (h:Dn (smN 6) D) {G:Gol} {n c:Int} (ho:OfR D (wkQ sevenS) G n c):G = wkG ∧ n = 2 ∧ c = 0:=by
 have hb:=bndF_congr h.sm (varsS (wkQ sevenS).atoms)
 cases ho with
 | dict h'=>exact absurd h.ok h'
 | pat h' h2=>rw [wkq_ok] at h2;cases h2
 | unk h' h2 hg =>
  unfold bndsF at hg
  rw [hb] at hg
  have:=wkq_bnds
  unfold bndsF at this
  rw [this] at hg;cases hg
 | ok h' h2 hg =>
  refine ⟨?_,rfl,rfl⟩
  have hgo:=goalF_congr h.sm (wkQ sevenS)
  rw [wkq_goal] at hgo
  unfold goalF at hgo
  rw [if_pos hg] at hgo
  exact Option.some.inj hgo
theorem wk_of8 {D:Dic} (h:Dn (smN 6) D) {G:Gol} {n c:Int} (ho:OfR D (wkQ eightS) G n c):n = 2 ∧ c = 280:=by
 have hb:=bndF_congr h.sm (varsS (wkQ eightS).atoms)
 have hu:=wkq_unk
 unfold bndsF at hu
 cases ho with
 | dict h'=>exact absurd h.ok h'
 | pat h' h2=>rw [wkq_ok8] at h2;cases h2
 | unk h' h2 hg =>
  unfold bndsF
  rw [hb,hu.2]
  exact ⟨rfl,rfl⟩
 | ok h' h2 hg =>
  unfold bndsF at hg
  rw [hb,hu.1] at hg;cases hg
theorem wk_back {D:Dic} (h:Dn (smN 6) D) {P:Pat} {c:Int} (hb:BackR D wkG P c):P = wkQ sevenS ∧ c = 0:=by
 have he:=backF_congr h.sm wkG
 rw [wkq_back] at he
 cases hb with
 | dict h'=>exact absurd h.ok h'
 | goal h' hb=>rw [he] at hb;cases hb
 | ok h' hb=>rw [he] at hb;exact ⟨(Option.some.inj hb).symm,rfl⟩
theorem wk_keys {D:Dic} (h:Dn (smN 6) D) {L:List (List ByteArray)} {c:Int} (hk:KeysR D [[1,0]] L c):L = [[bobS,annS]] ∧ c = 0:=by
 have hn:(D 0).1 = [annS,bobS]:=h.names 0 (by omega)
 have hin:∀ l ∈ [[1,0]],InK (D 0).1 l:=by
  rw [hn]
  intro l hl n hn
  rw [List.mem_singleton.1 hl] at hn
  simp at hn
  rcases hn with rfl | rfl <;> decide
 cases hk with
 | dict h'=>exact absurd h.ok h'
 | arg h' hb=>exact absurd hin hb
 | ok h' hb=>exact ⟨by rw [hn];rfl,rfl⟩
end

end Go.Proofs.YtkmbnghghbfkdaaGreat
