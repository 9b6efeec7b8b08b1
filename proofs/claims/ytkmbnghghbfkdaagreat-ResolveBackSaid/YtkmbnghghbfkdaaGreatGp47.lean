/- The document: the pattern of which it is the goal. -/
import Derived.Test.YtkmbnghghbfkdaaGreatGp46
import Derived.Test.YtkmbnghghbfkdaaGreatGp21
set_option linter.unusedSimpArgs false
set_option linter.unusedVariables false
set_option maxHeartbeats 2000000
set_option maxRecDepth 100000
namespace Go.Proofs.YtkmbnghghbfkdaaGreat
open Go.Lib (hid)

section
open Go.RowKit Go.Shelf Go.Sort
attribute [local go_sem] Oper.semAt_some wide_fn wide_depth
def groB12:Nat → Gro
 | 1=>.read
 | 3=>.read
 | 5=>.read
 | 6=>.grow
 | 7=>.grow
 | _=>.pure
def BkT (D:Dic) (G:Gol) (P:Pat) (b:Bool):Prop:=(b = true ∧ backF D G = some P) ∨ (b = false ∧ backF D G = none ∧ P = noPat)
theorem atCellsR_one (b:Atm):∀ x ∈ atCells b,x.oneCell' = true:=by simp [atCells,Value.oneCell']
theorem OfT.no {D:Dic} {P:Pat} {G:Gol} {n:Int} (h:OfT D P G n false):goalF D P = none:=by
 rcases h with ⟨h,_⟩ | ⟨_,h,_⟩
 ·cases h
 ·exact h
theorem OfT.yes {D:Dic} {P:Pat} {G:Gol} {n:Int} (h:OfT D P G n true):goalF D P = some G:=by
 rcases h with ⟨_,h,_⟩ | ⟨h,_⟩
 ·exact h
 ·cases h
theorem bk_no {D:Dic} {G:Gol} {P:Pat} (hb:backF D G = if P.okB = true ∧ goalF D P = some G then some P else none) (h:P.okB = false ∨ goalF D P ≠ some G):backF D G = none:=by
 rw [hb,if_neg]
 rintro ⟨h1,h2⟩
 rcases h with h | h
 ·rw [h1] at h;cases h
 ·exact h h2
theorem patR_fits {D:Dic} {G:Gol} {A:List Atm} {R H:List ByteArray} (hok:DicOK D) (hf:G.Fits) (hA:preF (atmO D G.vars) G.atoms = (A,true)):(patR G A R H).Fits:=by
 refine ⟨fun a ha=>?_,?_⟩
 ·have ha':a ∈ (preF (atmO D G.vars) G.atoms).1:=by rw [hA];exact ha
  obtain ⟨b,_,e⟩:=preF_from a ha'
  exact atmF_fits hok hf.vars ((atmO_F a).1 e).1
 ·have h:=(preF_len (atmO D G.vars) G.atoms).1
  rw [hA] at h
  dsimp only at h
  have:=hf.few.1
  show A.length ≤ 100000
  omega
set_option maxHeartbeats 4000000 in
theorem backRR_any (A5:Heads) (D:Dic) (G:Gol) (gs:List Value) (w:World) (hV:DicV w (hv A5) D) (hok:DicOK D) (hG:GolAt w (.agg gs.toArray) G) (hf:G.Fits) :
 Calls Tryz.prog 31 #[.agg (dcells (hv A5)).toArray,.agg gs.toArray] w fun e w'=>∃ q1 d1 q2 d2 q3 d3 P b,e = .returned (.tuple #[.agg (patL (.slice q1 P.atoms.length d1) (.slice q2 P.ret.length d2) (.slice q3 P.hint.length d3) P).toArray,.bool b]) ∧
  BkT D G P b ∧ PatOwn w.heap.size w' (patV (.slice q1 P.atoms.length d1) (.slice q2 P.ret.length d2) (.slice q3 P.hint.length d3) P) P ∧ Ext w w':=by
 have hmo:Tryz.prog.follows .mixedOrders = true:=by kernel_rfl
 have HGA:=hid hG
 obtain ⟨vv,av,rv,hv',e,gV,gA,gR,gH⟩:=hG
 obtain rfl:gs = golC vv av rv hv' G:=by unfold golV at e;simpa using e
 obtain ⟨va,vc,rfl,_,_⟩:=Sl.shape gV
 obtain ⟨ga,gc,rfl,_,_⟩:=gA.shape
 obtain ⟨ra,rc,rfl,_,_⟩:=gR.shape
 obtain ⟨ha,hc,rfl,_,_⟩:=gH.shape
 obtain ⟨f1,f2,f3,f4⟩:=hf.few
 have HVD:=hid hV
 have HVV:=hid gV
 have HA:=hid gA
 have HR:=hid gR
 have HH:=hid gH
 have HOK:=hid hok
 have HFT:=hid hf
 clear hV hok gV gA gR gH hf e
 have hbx:=boxes3 w (dcells (hv A5)) 28 (golC (.slice va G.vars.length vc) (.slice ga G.atoms.length gc) (.slice ra G.ret.length rc) (.slice ha G.hint.length hc) G) 39 ([.slice none 0 0,.slice none 0 0,.bool false,.bool false,.bool false,.int .i64 0,.int .i64 0,.slice none 0 0]) 35
 have HBX:=hid hbx
 clear hbx
 go_enter Tryz.func31,Tryz.ntmps31
 go_upto_region 1 with fail
 generalize ((w.alloc (.cells (dcells (hv A5)).toArray 28)).alloc (.cells (golC (.slice va G.vars.length vc) (.slice ga G.atoms.length gc) (.slice ra G.ret.length rc) (.slice ha G.hint.length hc) G).toArray 39)).alloc (.cells ([.slice none 0 0,.slice none 0 0,.bool false,.bool false,.bool false,.int .i64 0,.int .i64 0,.slice none 0 0]).toArray 35) = w1 at *
 obtain ⟨y0,hy0⟩:∃ x,w.heap.size = x:=⟨_,rfl⟩
 obtain ⟨y1,hy1⟩:∃ x,y0 + 1 = x:=⟨_,rfl⟩
 obtain ⟨y2,hy2⟩:∃ x,y1 + 1 = x:=⟨_,rfl⟩
 rw [hy0,hy1,hy2] at HBX
 simp only [hy0,hy1,hy2]
 have HN:=hid (show w.heap.size = y0 ∧ y0 + 1 = y1 ∧ y1 + 1 = y2 from ⟨hy0,hy1,hy2⟩)
 have HX:=hid HBX.out.1
 have H0:=hid HBX.out.2.1
 have H1:=hid HBX.out.2.2.1
 have H2:=hid HBX.out.2.2.2
 clear hy0 hy1 hy2 HBX
 have k3:=H1.out.cell (i:=3) rfl
 have k4:=H1.out.cell (i:=4) rfl
 have k5:=H1.out.cell (i:=5) rfl
 have k6:=H1.out.cell (i:=6) rfl
 have k7:=H1.out.cell (i:=7) rfl
 apply wp_region_lit
 iterate 10 (refine wpList_plain rfl fun Y y'=>?_;go_simp;refine y' _ _ ?_;clear y' Y)
 refine wpList_built rfl _ _ rfl (patL (.slice none 0 0) (.slice none 0 0) (.slice none 0 0) (golP G)).toArray (by kernel_rfl) ?_
 clear k3 k4 k5 k6 k7
 (refine wpList_plain rfl fun Y y'=>?_;go_simp;refine y' _ _ ?_;clear y' Y)
 have hax:=Ext.alloc w1 (.cells #[.slice none 0 0,.slice none 0 0,.bool false,.bool false,.bool false,.int .i64 0,.int .i64 0,.slice none 0 0] 35)
 have har:RowAt (w1.alloc (.cells #[.slice none 0 0,.slice none 0 0,.bool false,.bool false,.bool false,.int .i64 0,.int .i64 0,.slice none 0 0] 35)) w1.heap.size 35 (#[.slice none 0 0,.slice none 0 0,.bool false,.bool false,.bool false,.int .i64 0,.int .i64 0,.slice none 0 0]).toList:=RowAt.new _ _ _
 refine plain_store rfl _ _ _ rfl w1.heap.size (patL (.slice none 0 0) (.slice none 0 0) (.slice none 0 0) (golP G)) rfl rfl har (by kernel_rfl) rfl ((by simp [patL,Value.oneCell'])) ?_
 have hex:Ext w1 ((w1.alloc (.cells #[.slice none 0 0,.slice none 0 0,.bool false,.bool false,.bool false,.int .i64 0,.int .i64 0,.slice none 0 0] 35)).setRow w1.heap.size (patL (.slice none 0 0) (.slice none 0 0) (.slice none 0 0) (golP G)).toArray):=below_setRow hax (Nat.le_refl _) _
 have HEw2:=hid hex
 have HRp:=hid (har.setRow (patL (.slice none 0 0) (.slice none 0 0) (.slice none 0 0) (golP G)))
 clear hax har hex
 go_simp
 generalize (w1.alloc (.cells #[.slice none 0 0,.slice none 0 0,.bool false,.bool false,.bool false,.int .i64 0,.int .i64 0,.slice none 0 0] 35)).setRow w1.heap.size (patL (.slice none 0 0) (.slice none 0 0) (.slice none 0 0) (golP G)).toArray = w2 at *
 obtain ⟨p,hsp⟩:∃ x,w1.heap.size = x:=⟨_,rfl⟩
 rw [hsp] at HRp
 simp only [hsp]
 have HSp:=hid hsp
 clear hsp
 apply wpList_nil
 have HX2:=hid HEw2.out
 have HP2:=hid (show RowAt w2 p 35 (patL (.slice none 0 0) (.slice none 0 0) (.slice none 0 0) (golP G)) from HRp.out)
 have HPL:=hid (show w1.heap.size ≤ p from Nat.le_of_eq HSp.out)
 clear HEw2 HRp HSp
 have c1:=(H1.out.ext HX2.out).cell (i:=1) rfl
 go_wp2_with fail
 clear c1
 go_loopg [32] G.atoms.length (fun g i wr=>∃ (k:Nat) (L:List Atm) (oa:Option Addr) (oc:Nat),k ≤ G.atoms.length ∧ g = G.atoms.length - k ∧ i = .int .i64 k ∧ Hid (PreI (atmO D G.vars) G.atoms k L) ∧ Hid (Ext w1 wr) ∧ Hid (RowAt wr p 35 (patL (.slice oa k oc) (.slice none 0 0) (.slice none 0 0) (golP G))) ∧ Hid (wr.ownsRow w1.heap.size 88 7 (.slice oa k oc) k (L.flatMap atCells)))
 case atStart=>exact ⟨0,[],none,0,Nat.zero_le _,rfl,rfl,hid (PreI.start _ _),HX2,HP2,hid (World.ownsRow_nil _ _ _ _)⟩
 case round =>
  obtain ⟨k,L,oa,oc,hk,hg,rfl,HI,HXR,HP,HO⟩:=hrel
  have Hg:=hid hg
  have HLEN:=hid HI.out.2
  clear hg HX2 HP2
  have hk1:k ≤ 100000:=by omega
  by_cases hlt:k < G.atoms.length
  ·obtain ⟨b,o,rfl,c0,c1,c2,c3,c4,c5⟩:=(HA.out.ext (HX.out.trans HXR.out)).at_ hlt
   have hmem:=List.getElem_mem hlt
   have HSM:=hid (fun b h=>HI.out.some hlt (b:=b) h)
   have HNO:=hid (fun h=>HI.out.none hlt h)
   generalize hAT:G.atoms[k] = x at *
   clear hAT hmem
   have HBO:=hid (fun w' (hx:Ext w1 w')=>backAR_any A5 D G.vars (.slice va G.vars.length vc) x w' (HVD.out.ext (HX.out.trans hx)) (Strs.ext HVV.out (HX.out.trans hx)))
   have hO:atmO D G.vars x = if (atmT D G.vars x).2 = true then some (atmT D G.vars x).1 else none:=rfl
   obtain ⟨X,hX⟩:∃ X,atmT D G.vars x = X:=⟨_,rfl⟩
   rw [hX] at HBO hO
   clear hX
   obtain ⟨Y,yb⟩:=X
   obtain ⟨kd,nn,⟨a1,a2⟩,⟨b1,b2⟩⟩:=x
   dsimp only at c0 c1 c2 c3 c4 c5 HBO hO
   unfold bndCells at HBO
   dsimp only at HBO
   have HFF:=hid hO
   clear hO
   have HAX:=hid (Ext.alloc wr (.cells #[.int .i64 kd,.int .i64 nn,.int .i64 a1,.int .i64 a2,.int .i64 b1,.int .i64 b2] 75))
   have HAB:=hid (RowAt.new wr 75 [.int .i64 kd,.int .i64 nn,.int .i64 a1,.int .i64 a2,.int .i64 b1,.int .i64 b2])
   go_upto_region 5 with fail
   replace HAB:Hid (RowAt (wr.alloc (.cells #[.int .i64 kd,.int .i64 nn,.int .i64 a1,.int .i64 a2,.int .i64 b1,.int .i64 b2] 75)) wr.heap.size 75 [.int .i64 kd,.int .i64 nn,.int .i64 a1,.int .i64 a2,.int .i64 b1,.int .i64 b2]):=HAB
   generalize wr.alloc (.cells #[.int .i64 kd,.int .i64 nn,.int .i64 a1,.int .i64 a2,.int .i64 b1,.int .i64 b2] 75) = wb at *
   obtain ⟨t,ht⟩:∃ t,wr.heap.size = t:=⟨_,rfl⟩
   rw [ht] at HAB
   simp only [ht]
   clear ht c0 c1 c2 c3 c4 c5
   have HXB:=hid (HXR.out.trans HAX.out)
   have v0:=(H1.out.ext HXB.out).cell (i:=0) rfl
   apply wp_region_lit
   refine plain_load rfl _ _ rfl y0 rfl _ _ (H0.out.ext HXB.out) Tryz.underlying28 rfl (by kernel_rfl) ?_
   go_simp
   iterate 2 (refine wpList_plain rfl fun Y y'=>?_;go_simp;refine y' _ _ ?_;clear y' Y)
   refine plain_load rfl _ _ rfl t rfl _ _ (HAB.out) Tryz.underlying75 rfl (by kernel_rfl) ?_
   go_simp
   refine wpList_plain rfl fun K1 hK1=>?_
   go_simp
   refine (HBO.out wb HXB.out).mono ?_;rintro e w9 ⟨rfl,hx9⟩
   go_simp
   refine hK1 _ _ ?_
   clear hK1 K1
   clear v0
   iterate 4 (refine wpList_plain rfl fun Y y'=>?_;go_simp;refine y' _ _ ?_;clear y' Y)
   have hax:=Ext.alloc w9 (.cells #[.int .i64 0,.bool false,.string ⟨#[]⟩,.string ⟨#[]⟩,.string ⟨#[]⟩,.bool false,.string ⟨#[]⟩] 88)
   have har:RowAt (w9.alloc (.cells #[.int .i64 0,.bool false,.string ⟨#[]⟩,.string ⟨#[]⟩,.string ⟨#[]⟩,.bool false,.string ⟨#[]⟩] 88)) w9.heap.size 88 (#[.int .i64 0,.bool false,.string ⟨#[]⟩,.string ⟨#[]⟩,.string ⟨#[]⟩,.bool false,.string ⟨#[]⟩]).toList:=RowAt.new _ _ _
   refine plain_store rfl _ _ _ rfl w9.heap.size (atCells Y) rfl rfl har (by kernel_rfl) rfl ((by simp [atCells,Value.oneCell'])) ?_
   have hex:Ext w9 ((w9.alloc (.cells #[.int .i64 0,.bool false,.string ⟨#[]⟩,.string ⟨#[]⟩,.string ⟨#[]⟩,.bool false,.string ⟨#[]⟩] 88)).setRow w9.heap.size (atCells Y).toArray):=below_setRow hax (Nat.le_refl _) _
   have HEw10:=hid hex
   have HRy:=hid (har.setRow (atCells Y))
   clear hax har hex
   go_simp
   generalize (w9.alloc (.cells #[.int .i64 0,.bool false,.string ⟨#[]⟩,.string ⟨#[]⟩,.string ⟨#[]⟩,.bool false,.string ⟨#[]⟩] 88)).setRow w9.heap.size (atCells Y).toArray = w10 at *
   obtain ⟨y,hsy⟩:∃ x,w9.heap.size = x:=⟨_,rfl⟩
   rw [hsy] at HRy
   simp only [hsy]
   have HSy:=hid hsy
   clear hsy
   (refine wpList_plain rfl fun Y y'=>?_;go_simp;refine y' _ _ ?_;clear y' Y)
   apply wpList_nil
   have hx10:=HAX.out.trans (hx9.trans HEw10.out)
   have HX10:=hid (HXR.out.trans hx10)
   have HP10:=hid (HP.out.ext hx10)
   have HO10:=hid (own_ext HO.out hx10)
   have HRY:=hid (show RowAt w10 y 88 (atCells Y) from HRy.out)
   clear hx10 hx9 HEw10 HRy HSy HXB HAX HAB HXR HP HO HBO HI
   cases yb with
   | false =>
    have HPN:=hid (refBack_no (D:=D) (g:=G) (by rw [HNO.out (by rw [HFF.out];rfl)]))
    go_upto_region 7 with fail
    apply wp_region_lit
    refine wpList_built rfl _ _ rfl #[.slice none 0 0,.slice none 0 0,.bool false,.bool false,.bool false,.int .i64 0,.int .i64 0,.slice none 0 0] (by kernel_rfl) ?_
    refine plain_store rfl _ _ _ rfl y2 ([.slice none 0 0,.slice none 0 0,.bool false,.bool false,.bool false,.int .i64 0,.int .i64 0,.slice none 0 0]) rfl rfl (H2.out.ext HX10.out) (by kernel_rfl) rfl ((by simp [Value.oneCell'])) ?_
    have HRR:=hid ((H2.out.ext HX10.out).setRow ([.slice none 0 0,.slice none 0 0,.bool false,.bool false,.bool false,.int .i64 0,.int .i64 0,.slice none 0 0]))
    have HXX:=hid (show Ext w ((w10).setRow y2 ([.slice none 0 0,.slice none 0 0,.bool false,.bool false,.bool false,.int .i64 0,.int .i64 0,.slice none 0 0]).toArray) from below_setRow (HX.out.trans HX10.out) ((by have:=HN.out;omega)) _)
    go_simp
    generalize (w10).setRow y2 ([.slice none 0 0,.slice none 0 0,.bool false,.bool false,.bool false,.int .i64 0,.int .i64 0,.slice none 0 0]).toArray = wend at *
    (refine wpList_plain rfl fun Y y'=>?_;go_simp;refine y' _ _ ?_;clear y' Y)
    apply wpList_nil
    go_wp2_with fail
    exact bodyPost_ret (results_row1 rfl rfl HRR.out Tryz.underlying35 rfl (by kernel_rfl)) rfl (⟨none,0,none,0,none,0,noPat,false,rfl,.inr ⟨rfl,HPN.out,rfl⟩,noPat_own _ _,HXX.out⟩)
   | true =>
    have HPI:=hid (HSM.out Y (by rw [HFF.out];rfl))
    have c1:=HP10.out.cell (i:=0) rfl
    go_upto_region 8 with fail
    apply wp_region_lit
    iterate 2 (refine wpList_plain rfl fun Y y'=>?_;go_simp;refine y' _ _ ?_;clear y' Y)
    refine plain_load rfl _ _ rfl y rfl _ _ (HRY.out) Tryz.underlying88 rfl (by kernel_rfl) ?_
    go_simp
    clear c1
    have hxe:=Ext.alloc w10 (.cells (atCells Y).toArray 88)
    have hre:=RowAt.new w10 88 (atCells Y)
    have HX11:=hid (HX10.out.trans hxe)
    have HP11:=hid (HP10.out.ext hxe)
    have HO11:=hid (show (w10.alloc (.cells #[.int .i64 Y.kind,.bool Y.fk,.string Y.fn,.string Y.name,.string Y.value,.bool Y.tk,.string Y.tn] 88)).ownsRow w1.heap.size 88 7 (.slice oa k oc) k (L.flatMap atCells) from own_ext HO10.out hxe)
    have HRE:=hid hre
    have hsz:w1.heap.size ≤ w10.heap.size:=HX10.out.size
    have HSZ:=hid hsz
    clear hxe hre HX10 HP10 HO10 HRY hsz
    unfold atCells at HX11 HP11 HRE
    unfold atCells
    (refine wpList_plain rfl fun Y y'=>?_;go_simp;refine y' _ _ ?_;clear y' Y)
    generalize w10.alloc (.cells #[.int .i64 Y.kind,.bool Y.fk,.string Y.fn,.string Y.name,.string Y.value,.bool Y.tk,.string Y.tn] 88) = w11 at *
    obtain ⟨q,hq⟩:∃ q,w10.heap.size = q:=⟨_,rfl⟩
    rw [hq] at HRE HSZ
    simp only [hq]
    clear hq
    refine wpList_append_sl _ rfl _ _ 33 rfl elAtR rfl HO11.out rfl (RowAt.sl (show RowAt w11 q 88 (atCells Y) from HRE.out) 1 1 (Nat.le_refl _) (by unfold maxLen;omega)) rfl (atCellsR_one _) (by omega) (by unfold maxLen;omega) HX11.out.size ?_
    intro v' w12 how12 hb12 hg12 _
    obtain ⟨a2',c2',rfl⟩:=own_vw how12
    have hx12:Ext w1 w12:=Below.trans HX11.out hb12
    have hr12:RowAt w12 p 35 (patL (.slice oa k oc) (.slice none 0 0) (.slice none 0 0) (golP G)):=HP11.out.kept hg12 (fun e=>own_ne_row HO11.out HP11.out (by decide) _ e rfl)
    have cc:=hr12.cell (i:=0) rfl
    have ff:=hr12.frozen 0
    have hgs:=grown_set w12 p 0 (.slice a2' (k + 1) c2')
    have HX13:=hid (show Ext w1 (w12.setCell ⟨p,0,none⟩ (.slice a2' (k + 1) c2')) from Ext.set_of hx12 HPL.out _)
    have HP13:=hid (show RowAt (w12.setCell ⟨p,0,none⟩ (.slice a2' (k + 1) c2')) p 35 (patL (.slice a2' (k + 1) c2') (.slice none 0 0) (.slice none 0 0) (golP G)) from hr12.set 0 _)
    have HO13:=hid (show (w12.setCell ⟨p,0,none⟩ (.slice a2' (k + 1) c2')).ownsRow w1.heap.size 88 7 (.slice a2' (k + 1) c2') (k + 1) ((L ++ [Y]).flatMap atCells) from by rw [flat_snocB];exact own_turn how12 hr12 (by decide) hgs)
    clear how12 hb12 hg12 hx12 hr12 hgs HX11 HP11 HRE HO11
    iterate 2 (refine wpList_plain rfl fun Y y'=>?_;go_simp;refine y' _ _ ?_;clear y' Y)
    clear cc ff
    generalize w12.setCell ⟨p,0,none⟩ (.slice a2' (k + 1) c2') = w13 at *
    apply wpList_nil
    go_wp2_with fail
    go_roundg (G.atoms.length - (k + 1))
    case measure=>have:=Hg.out;omega
    case rel=>exact ⟨k + 1,L ++ [Y],a2',c2',by omega,rfl,by first | rfl | go_num,HPI,HX13,HP13,HO13⟩
  ·have he:k = G.atoms.length:=by omega
   subst he
   have HF:=hid HI.out.done
   clear HI
   have r2:=(H1.out.ext HXR.out).cell (i:=2) rfl
   have r0:=(H1.out.ext HXR.out).cell (i:=0) rfl
   have HT1:=hid (textsR_any (.slice ra G.ret.length rc) (.slice va G.vars.length vc) G.ret G.vars wr (HR.out.ext (HX.out.trans HXR.out)) (Strs.ext HVV.out (HX.out.trans HXR.out)) f2)
   go_upto_region 10 with fail
   apply wp_region_lit
   iterate 4 (refine wpList_plain rfl fun Y y'=>?_;go_simp;refine y' _ _ ?_;clear y' Y)
   refine wpList_plain rfl fun K1 hK1=>?_
   go_simp
   refine HT1.out.mono ?_;rintro e w3 ⟨ta,tc,T1,b1,rfl,ht1,ho1,hx3⟩
   go_simp
   refine hK1 _ _ ?_
   clear hK1 K1
   iterate 5 (refine wpList_plain rfl fun Y y'=>?_;go_simp;refine y' _ _ ?_;clear y' Y)
   apply wpList_nil
   have HX3:=hid (HXR.out.trans hx3)
   have HP3:=hid (HP.out.ext hx3)
   have HO3:=hid (own_ext HO.out hx3)
   have HS3:=hid (own_base ho1 HXR.out.size)
   have HTR1:=hid ht1
   clear ht1 ho1 hx3 HXR HP HO HT1 r2 r0
   have r8:=(H1.out.ext HX3.out).cell (i:=8) rfl
   have r0:=(H1.out.ext HX3.out).cell (i:=0) rfl
   have HT2:=hid (textsR_any (.slice ha G.hint.length hc) (.slice va G.vars.length vc) G.hint G.vars w3 (HH.out.ext (HX.out.trans HX3.out)) (Strs.ext HVV.out (HX.out.trans HX3.out)) f3)
   go_upto_region 11 with fail
   apply wp_region_lit
   iterate 4 (refine wpList_plain rfl fun Y y'=>?_;go_simp;refine y' _ _ ?_;clear y' Y)
   refine wpList_plain rfl fun K1 hK1=>?_
   go_simp
   refine HT2.out.mono ?_;rintro e w4 ⟨ua,uc,T2,b2,rfl,ht2,ho2,hx4⟩
   go_simp
   refine hK1 _ _ ?_
   clear hK1 K1
   iterate 5 (refine wpList_plain rfl fun Y y'=>?_;go_simp;refine y' _ _ ?_;clear y' Y)
   apply wpList_nil
   have HX4:=hid (HX3.out.trans hx4)
   have HP4:=hid (HP3.out.ext hx4)
   have HO4:=hid (own_ext HO3.out hx4)
   have HS4:=hid (own_ext HS3.out hx4)
   have HU4:=hid (own_base ho2 HX3.out.size)
   have HTR2:=hid ht2
   clear ht2 ho2 hx4 HX3 HP3 HO3 HS3 HT2 r8 r0
   go_upto_region 12 with fail
   refine wp_region_grox [] groB12 [0,1,2,3,4,5,6,7,8] hmo (by kernel_rfl) rfl (by kernel_rfl) (fun _ _ _ _ _ h=>h) ?_
   have hxd:Ext w4 w4.drew:=Ext.drewN w4 1
   have HX5:=hid (HX4.out.trans hxd)
   have HP5:=hid (HP4.out.ext hxd)
   have HO5:=hid (own_ext HO4.out hxd)
   have HS5:=hid (own_ext HS4.out hxd)
   have HU5:=hid (own_ext HU4.out hxd)
   clear hxd HX4 HP4 HO4 HS4 HU4
   generalize w4.drew = w5 at *
   have r2:=(H1.out.ext HX5.out).cell (i:=2) rfl
   have r0:=(H1.out.ext HX5.out).cell (i:=0) rfl
   have HPL1:=hid (placesR_any (.slice va G.vars.length vc) (.slice va G.vars.length vc) G.vars G.vars w5 (Strs.ext HVV.out (HX.out.trans HX5.out)) (Strs.ext HVV.out (HX.out.trans HX5.out)) f4)
   repeat (first
    | (refine groX_pure rfl rfl ?_;intro K hK;go_simp;refine hK _ ?_;clear hK K)
    | (refine groX_read rfl rfl ?_;intro K S hS hK;go_simp;refine hK _ ?_;clear hK K hS S)
    | (refine groX_read rfl rfl ?_;intro K S hS hK;go_simp;refine ⟨hS _ ?_,hK _ ?_⟩;(clear hK K hS S;intro w' hx';have hce:=grows_some hx';go_simp);clear hK K hS S))
   refine groX_grow rfl rfl ?_
   intro K hK
   go_simp
   refine HPL1.out.mono ?_;rintro e w6 ⟨pa,pc,rfl,hpo,hx6⟩
   go_simp
   refine hK _ _ ⟨Grows.ext hx6,?_⟩
   clear hK K
   have hsn:=sameNR_any (.slice ra G.ret.length rc) (.slice pa G.vars.length pc) G.ret (G.vars.map (findF G.vars)) w6 (HR.out.ext ((HX.out.trans HX5.out).trans hx6)) (by have h:=Sl.of_own hpo;unfold Ints;rw [List.length_map];exact h)
   obtain ⟨cb,hcb⟩:∃ b,decide (G.ret = G.vars.map (findF G.vars)) = b:=⟨_,rfl⟩
   rw [hcb] at hsn
   have HSN:=hid hsn
   have HCB:=hid hcb
   clear hsn hcb hpo HPL1 r2 r0
   refine groX_grow rfl rfl ?_
   intro K hK
   go_simp
   refine HSN.out.mono ?_;rintro e w7 ⟨rfl,hx7⟩
   go_simp
   refine hK _ _ ⟨Grows.ext hx7,?_⟩
   clear hK K
   have hx8:=hx6.trans hx7
   have HX7:=hid (HX5.out.trans hx8)
   have HP7:=hid (HP5.out.ext hx8)
   have HO7:=hid (own_ext HO5.out hx8)
   have HS7:=hid (own_ext HS5.out hx8)
   have HU7:=hid (own_ext HU5.out hx8)
   clear hx6 hx7 hx8 HX5 HP5 HO5 HS5 HU5 HSN
   repeat (first
    | (refine groX_pure rfl rfl ?_;intro K hK;go_simp;refine hK _ ?_;clear hK K)
    | (refine groX_read rfl rfl ?_;intro K S hS hK;go_simp;refine hK _ ?_;clear hK K hS S)
    | (refine groX_read rfl rfl ?_;intro K S hS hK;go_simp;refine ⟨hS _ ?_,hK _ ?_⟩;(clear hK K hS S;intro w' hx';have hce:=grows_some hx';go_simp);clear hK K hS S))
   refine groX_nil ?_
   obtain ⟨R',hR'⟩:∃ R:List ByteArray,(if G.ret = G.vars.map (findF G.vars) then [] else T1) = R:=⟨_,rfl⟩
   have HRE:=hid hR'
   clear hR'
   go_upto_if 78 with fail
   go_cut [79] (fun s79 wx=>Hid (∃ (sa:Option Addr) (sc:Nat),Ext w1 wx ∧ RowAt wx p 35 (patL (.slice oa G.atoms.length oc) (.slice sa R'.length sc) (.slice none 0 0) (golP G)) ∧ wx.ownsRow w1.heap.size 88 7 (.slice oa G.atoms.length oc) G.atoms.length (L.flatMap atCells) ∧ wx.ownsRow w1.heap.size 9 1 (.slice sa R'.length sc) R'.length (R'.map Value.string) ∧ wx.ownsRow w1.heap.size 9 1 (.slice ua T2.length uc) T2.length (T2.map Value.string)))
   case first =>
    cases cb with
    | true =>
     have HRN:=hid (show R' = [] by rw [← HRE.out,if_pos (of_decide_eq_true HCB.out)])
     have HFN:=hid (show ∃ (sa:Option Addr) (sc:Nat),Ext w1 w7 ∧ RowAt w7 p 35 (patL (.slice oa G.atoms.length oc) (.slice sa R'.length sc) (.slice none 0 0) (golP G)) ∧ w7.ownsRow w1.heap.size 88 7 (.slice oa G.atoms.length oc) G.atoms.length (L.flatMap atCells) ∧ w7.ownsRow w1.heap.size 9 1 (.slice sa R'.length sc) R'.length (R'.map Value.string) ∧ w7.ownsRow w1.heap.size 9 1 (.slice ua T2.length uc) T2.length (T2.map Value.string) from by rw [HRN.out];exact ⟨none,0,HX7.out,HP7.out,HO7.out,World.ownsRow_nil _ _ _ _,HU7.out⟩)
     go_wp2_with fail
     go_meet
     exact HFN
    | false =>
     have HRN:=hid (show R' = T1 by rw [← HRE.out,if_neg (of_decide_eq_false HCB.out)])
     have cc:=HP7.out.cell (i:=1) rfl
     have ff:=HP7.out.frozen 1
     have hgs:=grown_set w7 p 1 (.slice ta T1.length tc)
     have HFN:=hid (show ∃ (sa:Option Addr) (sc:Nat),Ext w1 (w7.setCell ⟨p,1,none⟩ (.slice ta T1.length tc)) ∧ RowAt (w7.setCell ⟨p,1,none⟩ (.slice ta T1.length tc)) p 35 (patL (.slice oa G.atoms.length oc) (.slice sa R'.length sc) (.slice none 0 0) (golP G)) ∧ (w7.setCell ⟨p,1,none⟩ (.slice ta T1.length tc)).ownsRow w1.heap.size 88 7 (.slice oa G.atoms.length oc) G.atoms.length (L.flatMap atCells) ∧ (w7.setCell ⟨p,1,none⟩ (.slice ta T1.length tc)).ownsRow w1.heap.size 9 1 (.slice sa R'.length sc) R'.length (R'.map Value.string) ∧ (w7.setCell ⟨p,1,none⟩ (.slice ta T1.length tc)).ownsRow w1.heap.size 9 1 (.slice ua T2.length uc) T2.length (T2.map Value.string) from by rw [HRN.out];exact ⟨ta,tc,Ext.set_of HX7.out HPL.out _,HP7.out.set 1 _,own_turn HO7.out HP7.out (by decide) hgs,own_turn HS7.out HP7.out (by decide) hgs,own_turn HU7.out HP7.out (by decide) hgs⟩)
     clear hgs
     go_wp2_with fail
     go_meet
     exact HFN
   case rest =>
    obtain ⟨sa,sc,hxc,hpc,hoc,hsc,huc⟩:=hcut.out
    have cc:=hpc.cell (i:=7) rfl
    have ff:=hpc.frozen 7
    have hgs:=grown_set wc p 7 (.slice ua T2.length uc)
    have HX9:=hid (show Ext w1 (wc.setCell ⟨p,7,none⟩ (.slice ua T2.length uc)) from Ext.set_of hxc HPL.out _)
    have HP9:=hid (show RowAt (wc.setCell ⟨p,7,none⟩ (.slice ua T2.length uc)) p 35 (patL (.slice oa G.atoms.length oc) (.slice sa R'.length sc) (.slice ua T2.length uc) (golP G)) from hpc.set 7 _)
    have HO9:=hid (own_turn hoc hpc (by decide) hgs)
    have HS9:=hid (own_turn hsc hpc (by decide) hgs)
    have HU9:=hid (own_turn huc hpc (by decide) hgs)
    clear hcut hxc hpc hoc hsc huc hgs HX7 HP7 HO7 HS7 HU7 HCB
    go_upto_region 15 with fail
    clear cc ff
    generalize wc.setCell ⟨p,7,none⟩ (.slice ua T2.length uc) = w9 at *
    cases b1 with
    | false =>
     have HN1:=hid (show textsO G.vars G.ret = none by rcases HTR1.out with ⟨h,_⟩ | ⟨_,h,_⟩;cases h;exact h)
     have HNB:=hid (show backF D G = none from refBack_texts (.inl HN1.out))
     go_upto_region 16 with fail
     apply wp_region_lit
     refine wpList_built rfl _ _ rfl #[.slice none 0 0,.slice none 0 0,.bool false,.bool false,.bool false,.int .i64 0,.int .i64 0,.slice none 0 0] (by kernel_rfl) ?_
     refine plain_store rfl _ _ _ rfl y2 ([.slice none 0 0,.slice none 0 0,.bool false,.bool false,.bool false,.int .i64 0,.int .i64 0,.slice none 0 0]) rfl rfl (H2.out.ext (HX9.out)) (by kernel_rfl) rfl ((by simp [Value.oneCell'])) ?_
     have HRR:=hid ((H2.out.ext (HX9.out)).setRow ([.slice none 0 0,.slice none 0 0,.bool false,.bool false,.bool false,.int .i64 0,.int .i64 0,.slice none 0 0]))
     have HXX:=hid (show Ext w ((w9).setRow y2 ([.slice none 0 0,.slice none 0 0,.bool false,.bool false,.bool false,.int .i64 0,.int .i64 0,.slice none 0 0]).toArray) from below_setRow (HX.out.trans (HX9.out)) ((by have:=HN.out;omega)) _)
     go_simp
     generalize (w9).setRow y2 ([.slice none 0 0,.slice none 0 0,.bool false,.bool false,.bool false,.int .i64 0,.int .i64 0,.slice none 0 0]).toArray = wend at *
     (refine wpList_plain rfl fun Y y'=>?_;go_simp;refine y' _ _ ?_;clear y' Y)
     apply wpList_nil
     go_wp2_with fail
     exact bodyPost_ret (results_row1 rfl rfl HRR.out Tryz.underlying35 rfl (by kernel_rfl)) rfl (⟨none,0,none,0,none,0,noPat,false,rfl,.inr ⟨rfl,HNB.out,rfl⟩,noPat_own _ _,HXX.out⟩)
    | true =>
     cases b2 with
     | false =>
      have HN1:=hid (show textsO G.vars G.hint = none by rcases HTR2.out with ⟨h,_⟩ | ⟨_,h,_⟩;cases h;exact h)
      have HNB:=hid (show backF D G = none from refBack_texts (.inr HN1.out))
      go_upto_region 16 with fail
      apply wp_region_lit
      refine wpList_built rfl _ _ rfl #[.slice none 0 0,.slice none 0 0,.bool false,.bool false,.bool false,.int .i64 0,.int .i64 0,.slice none 0 0] (by kernel_rfl) ?_
      refine plain_store rfl _ _ _ rfl y2 ([.slice none 0 0,.slice none 0 0,.bool false,.bool false,.bool false,.int .i64 0,.int .i64 0,.slice none 0 0]) rfl rfl (H2.out.ext (HX9.out)) (by kernel_rfl) rfl ((by simp [Value.oneCell'])) ?_
      have HRR:=hid ((H2.out.ext (HX9.out)).setRow ([.slice none 0 0,.slice none 0 0,.bool false,.bool false,.bool false,.int .i64 0,.int .i64 0,.slice none 0 0]))
      have HXX:=hid (show Ext w ((w9).setRow y2 ([.slice none 0 0,.slice none 0 0,.bool false,.bool false,.bool false,.int .i64 0,.int .i64 0,.slice none 0 0]).toArray) from below_setRow (HX.out.trans (HX9.out)) ((by have:=HN.out;omega)) _)
      go_simp
      generalize (w9).setRow y2 ([.slice none 0 0,.slice none 0 0,.bool false,.bool false,.bool false,.int .i64 0,.int .i64 0,.slice none 0 0]).toArray = wend at *
      (refine wpList_plain rfl fun Y y'=>?_;go_simp;refine y' _ _ ?_;clear y' Y)
      apply wpList_nil
      go_wp2_with fail
      exact bodyPost_ret (results_row1 rfl rfl HRR.out Tryz.underlying35 rfl (by kernel_rfl)) rfl (⟨none,0,none,0,none,0,noPat,false,rfl,.inr ⟨rfl,HNB.out,rfl⟩,noPat_own _ _,HXX.out⟩)
     | true =>
      have hR1:textsO G.vars G.ret = some T1:=by rcases HTR1.out with ⟨_,h⟩ | ⟨h,_⟩;exact h;cases h
      have hH1:textsO G.vars G.hint = some T2:=by rcases HTR2.out with ⟨_,h⟩ | ⟨h,_⟩;exact h;cases h
      have hbp:=refBack_pat HF.out hR1 hH1
      have hpf:=patR_fits (R:=T1) (H:=T2) HOK.out HFT.out HF.out
      have hpa:(patR G L T1 T2).atoms = L:=rfl
      have hpr:(patR G L T1 T2).ret = R':=HRE.out
      have hph:(patR G L T1 T2).hint = T2:=rfl
      have hpl:patL (.slice oa G.atoms.length oc) (.slice sa R'.length sc) (.slice ua T2.length uc) (golP G) = patL (.slice oa (patR G L T1 T2).atoms.length oc) (.slice sa (patR G L T1 T2).ret.length sc) (.slice ua (patR G L T1 T2).hint.length uc) (patR G L T1 T2):=by
       rw [hpa,hpr,hph,HLEN.out];rfl
      have hp9:=HP9.out
      rw [hpl] at hp9
      have ho9:=HO9.out
      have hs9:=HS9.out
      have hu9:=HU9.out
      rw [← HLEN.out,← hpa] at ho9
      rw [← hpr] at hs9
      rw [← hph] at hu9
      obtain ⟨P,hP⟩:∃ P,patR G L T1 T2 = P:=⟨_,rfl⟩
      rw [hP] at hp9 ho9 hs9 hu9 hbp hpf
      have hpo9:PatOwn w1.heap.size w9 (patV (.slice oa P.atoms.length oc) (.slice sa P.ret.length sc) (.slice ua P.hint.length uc) P) P:=⟨_,_,_,rfl,ho9,hs9,hu9⟩
      have HPO:=hid hpo9
      have HPR:=hid hp9
      have HBP:=hid hbp
      have HPF:=hid hpf
      clear hR1 hH1 hbp hpf hpa hpr hph hpl hp9 ho9 hs9 hu9 hpo9 hP HP9 HO9 HS9 HU9 HTR1 HTR2 HRE
      have hrt:=right16_any _ P w9 HPO.out.at_ HPF.out
      obtain ⟨okb,hokb⟩:∃ b,P.okB = b:=⟨_,rfl⟩
      rw [hokb] at hrt
      unfold patV at hrt
      have HRT:=hid hrt
      have HOKB:=hid hokb
      clear hrt hokb
      apply wp_region_lit
      iterate 3 (refine wpList_plain rfl fun Y y'=>?_;go_simp;refine y' _ _ ?_;clear y' Y)
      iterate 2 (refine wpList_yes (by first|rfl|decide) fun Y y'=>?_;go_simp;refine y' _ _ ?_;clear y' Y)
      iterate 2 (refine wpList_plain rfl fun Y y'=>?_;go_simp;refine y' _ _ ?_;clear y' Y)
      refine wpList_yes (by first | rfl | decide | kernel_rfl) fun K1 hK1=>?_
      refine wp_load_mid _ _ rfl p 0 rfl _ _ (HPR.out).whole Tryz.underlying35 rfl (by kernel_rfl) ?_
      refine hK1 _ _ ?_
      clear hK1 K1
      go_simp
      refine wpList_yes (by first | rfl | decide | kernel_rfl) fun K1 hK1=>?_
      go_simp
      refine HRT.out.mono ?_;rintro e w10 ⟨rfl,hx10⟩
      go_simp
      refine hK1 _ _ ?_
      clear hK1 K1
      (refine wpList_yes (by first|rfl|decide) fun Y y'=>?_;go_simp;refine y' _ _ ?_;clear y' Y)
      (refine wpList_plain rfl fun Y y'=>?_;go_simp;refine y' _ _ ?_;clear y' Y)
      apply wpList_nil
      have HX10:=hid (HX9.out.trans hx10)
      have HPR10:=hid (HPR.out.ext hx10)
      have HPO10:=hid (HPO.out.ext hx10)
      clear hx10 HX9 HPR HPO HRT
      cases okb with
      | false =>
       have HNB:=hid (show backF D G = none from (by rw [HBP.out,if_neg (fun h=>by have:=h.1;rw [HOKB.out] at this;cases this)]))
       go_upto_region 16 with fail
       apply wp_region_lit
       refine wpList_built rfl _ _ rfl #[.slice none 0 0,.slice none 0 0,.bool false,.bool false,.bool false,.int .i64 0,.int .i64 0,.slice none 0 0] (by kernel_rfl) ?_
       refine plain_store rfl _ _ _ rfl y2 ([.slice none 0 0,.slice none 0 0,.bool false,.bool false,.bool false,.int .i64 0,.int .i64 0,.slice none 0 0]) rfl rfl (H2.out.ext (HX10.out)) (by kernel_rfl) rfl ((by simp [Value.oneCell'])) ?_
       have HRR:=hid ((H2.out.ext (HX10.out)).setRow ([.slice none 0 0,.slice none 0 0,.bool false,.bool false,.bool false,.int .i64 0,.int .i64 0,.slice none 0 0]))
       have HXX:=hid (show Ext w ((w10).setRow y2 ([.slice none 0 0,.slice none 0 0,.bool false,.bool false,.bool false,.int .i64 0,.int .i64 0,.slice none 0 0]).toArray) from below_setRow (HX.out.trans (HX10.out)) ((by have:=HN.out;omega)) _)
       go_simp
       generalize (w10).setRow y2 ([.slice none 0 0,.slice none 0 0,.bool false,.bool false,.bool false,.int .i64 0,.int .i64 0,.slice none 0 0]).toArray = wend at *
       (refine wpList_plain rfl fun Y y'=>?_;go_simp;refine y' _ _ ?_;clear y' Y)
       apply wpList_nil
       go_wp2_with fail
       exact bodyPost_ret (results_row1 rfl rfl HRR.out Tryz.underlying35 rfl (by kernel_rfl)) rfl (⟨none,0,none,0,none,0,noPat,false,rfl,.inr ⟨rfl,HNB.out,rfl⟩,noPat_own _ _,HXX.out⟩)
      | true =>
       have HOF:=hid (ofR_any A5 D P oa sa ua oc sc uc w10 (HVD.out.ext (HX.out.trans HX10.out)) HPO10.out.at_ HOKB.out)
       go_upto_region 17 with fail
       apply wp_region_lit
       refine plain_load rfl _ _ rfl y0 rfl _ _ (H0.out.ext HX10.out) Tryz.underlying28 rfl (by kernel_rfl) ?_
       go_simp
       refine plain_load rfl _ _ rfl p rfl _ _ (HPR10.out) Tryz.underlying35 rfl (by kernel_rfl) ?_
       go_simp
       refine wpList_plain rfl fun K1 hK1=>?_
       go_simp
       refine HOF.out.mono ?_;rintro e w11 ⟨gs2,G2,n2,b',rfl,hot,hgo,hx11⟩
       go_simp
       refine hK1 _ _ ?_
       clear hK1 K1
       obtain ⟨z1,e1,z2,e2,z3,e3,z4,e4,rfl⟩:=hgo.shape
       iterate 5 (refine wpList_plain rfl fun Y y'=>?_;go_simp;refine y' _ _ ?_;clear y' Y)
       have hax:=Ext.alloc w11 (.cells #[.slice none 0 0,.slice none 0 0,.slice none 0 0,.bool false,.bool false,.bool false,.int .i64 0,.int .i64 0,.slice none 0 0] 39)
       have har:RowAt (w11.alloc (.cells #[.slice none 0 0,.slice none 0 0,.slice none 0 0,.bool false,.bool false,.bool false,.int .i64 0,.int .i64 0,.slice none 0 0] 39)) w11.heap.size 39 (#[.slice none 0 0,.slice none 0 0,.slice none 0 0,.bool false,.bool false,.bool false,.int .i64 0,.int .i64 0,.slice none 0 0]).toList:=RowAt.new _ _ _
       refine plain_store rfl _ _ _ rfl w11.heap.size (golC (.slice z1 G2.vars.length e1) (.slice z2 G2.atoms.length e2) (.slice z3 G2.ret.length e3) (.slice z4 G2.hint.length e4) G2) rfl rfl har (by kernel_rfl) rfl ((by simp [golC,Value.oneCell'])) ?_
       have hex:Ext w11 ((w11.alloc (.cells #[.slice none 0 0,.slice none 0 0,.slice none 0 0,.bool false,.bool false,.bool false,.int .i64 0,.int .i64 0,.slice none 0 0] 39)).setRow w11.heap.size (golC (.slice z1 G2.vars.length e1) (.slice z2 G2.atoms.length e2) (.slice z3 G2.ret.length e3) (.slice z4 G2.hint.length e4) G2).toArray):=below_setRow hax (Nat.le_refl _) _
       have HEw12:=hid hex
       have HRg2:=hid (har.setRow (golC (.slice z1 G2.vars.length e1) (.slice z2 G2.atoms.length e2) (.slice z3 G2.ret.length e3) (.slice z4 G2.hint.length e4) G2))
       clear hax har hex
       go_simp
       generalize (w11.alloc (.cells #[.slice none 0 0,.slice none 0 0,.slice none 0 0,.bool false,.bool false,.bool false,.int .i64 0,.int .i64 0,.slice none 0 0] 39)).setRow w11.heap.size (golC (.slice z1 G2.vars.length e1) (.slice z2 G2.atoms.length e2) (.slice z3 G2.ret.length e3) (.slice z4 G2.hint.length e4) G2).toArray = w12 at *
       obtain ⟨g2,hsg2⟩:∃ x,w11.heap.size = x:=⟨_,rfl⟩
       rw [hsg2] at HRg2
       simp only [hsg2]
       have HSg2:=hid hsg2
       clear hsg2
       iterate 2 (refine wpList_plain rfl fun Y y'=>?_;go_simp;refine y' _ _ ?_;clear y' Y)
       apply wpList_nil
       have hx12:=hx11.trans HEw12.out
       have HX12:=hid (HX10.out.trans hx12)
       have HPR12:=hid (HPR10.out.ext hx12)
       have HPO12:=hid (HPO10.out.ext hx12)
       have HG12:=hid (hgo.at_.ext HEw12.out)
       have HR12:=hid (show RowAt w12 g2 39 (golC (.slice z1 G2.vars.length e1) (.slice z2 G2.atoms.length e2) (.slice z3 G2.ret.length e3) (.slice z4 G2.hint.length e4) G2) from HRg2.out)
       have HOT:=hid hot
       have hfew:G2.atoms.length ≤ 1000000000:=by
        rcases hot with ⟨_,h,_⟩ | ⟨_,_,h,_⟩
        ·have:=golOf_fits HOKB.out HPF.out h;omega
        ·rw [h];simp [zGol]
       have HSM:=hid (sameGR_any _ _ G2 G w12 HG12.out (HGA.out.ext (HX.out.trans HX12.out)) hfew (by omega))
       clear hx11 hx12 hot hgo HEw12 HRg2 HSg2 hfew HX10 HPR10 HPO10 HOF
       go_upto_region 18 with fail
       apply wp_region_lit
       iterate 3 (refine wpList_plain rfl fun Y y'=>?_;go_simp;refine y' _ _ ?_;clear y' Y)
       cases b' with
       | false =>
        refine wpList_not (by first | rfl | decide | kernel_rfl) ?_
        go_simp
        refine wpList_not (by first | rfl | decide | kernel_rfl) ?_
        go_simp
        refine wpList_not (by first | rfl | decide | kernel_rfl) ?_
        go_simp
        refine wpList_not (by first | rfl | decide | kernel_rfl) ?_
        go_simp
        (refine wpList_plain rfl fun Y y'=>?_;go_simp;refine y' _ _ ?_;clear y' Y)
        apply wpList_nil
        have HNB:=hid (show backF D G = none from bk_no HBP.out (.inr (by rw [HOT.out.no];exact nofun)))
        go_upto_region 19 with fail
        apply wp_region_lit
        refine wpList_built rfl _ _ rfl #[.slice none 0 0,.slice none 0 0,.bool false,.bool false,.bool false,.int .i64 0,.int .i64 0,.slice none 0 0] (by kernel_rfl) ?_
        refine plain_store rfl _ _ _ rfl y2 ([.slice none 0 0,.slice none 0 0,.bool false,.bool false,.bool false,.int .i64 0,.int .i64 0,.slice none 0 0]) rfl rfl (H2.out.ext (HX12.out)) (by kernel_rfl) rfl ((by simp [Value.oneCell'])) ?_
        have HRR:=hid ((H2.out.ext (HX12.out)).setRow ([.slice none 0 0,.slice none 0 0,.bool false,.bool false,.bool false,.int .i64 0,.int .i64 0,.slice none 0 0]))
        have HXX:=hid (show Ext w ((w12).setRow y2 ([.slice none 0 0,.slice none 0 0,.bool false,.bool false,.bool false,.int .i64 0,.int .i64 0,.slice none 0 0]).toArray) from below_setRow (HX.out.trans (HX12.out)) ((by have:=HN.out;omega)) _)
        go_simp
        generalize (w12).setRow y2 ([.slice none 0 0,.slice none 0 0,.bool false,.bool false,.bool false,.int .i64 0,.int .i64 0,.slice none 0 0]).toArray = wend at *
        (refine wpList_plain rfl fun Y y'=>?_;go_simp;refine y' _ _ ?_;clear y' Y)
        apply wpList_nil
        go_wp2_with fail
        exact bodyPost_ret (results_row1 rfl rfl HRR.out Tryz.underlying35 rfl (by kernel_rfl)) rfl (⟨none,0,none,0,none,0,noPat,false,rfl,.inr ⟨rfl,HNB.out,rfl⟩,noPat_own _ _,HXX.out⟩)
       | true =>
        obtain ⟨db,hdb⟩:∃ b,decide (G2 = G) = b:=⟨_,rfl⟩
        rw [hdb] at HSM
        have HDB:=hid hdb
        clear hdb
        refine wpList_yes (by first | rfl | decide | kernel_rfl) fun K1 hK1=>?_
        refine wp_load_mid _ _ rfl g2 0 rfl _ _ (HR12.out).whole Tryz.underlying39 rfl (by kernel_rfl) ?_
        refine hK1 _ _ ?_
        clear hK1 K1
        go_simp
        refine wpList_yes (by first | rfl | decide | kernel_rfl) fun K1 hK1=>?_
        refine wp_load_mid _ _ rfl y1 0 rfl _ _ (H1.out.ext HX12.out).whole Tryz.underlying39 rfl (by kernel_rfl) ?_
        refine hK1 _ _ ?_
        clear hK1 K1
        go_simp
        refine wpList_yes (by first | rfl | decide | kernel_rfl) fun K1 hK1=>?_
        go_simp
        refine HSM.out.mono ?_;rintro e w13 ⟨rfl,hx13⟩
        go_simp
        refine hK1 _ _ ?_
        clear hK1 K1
        (refine wpList_yes (by first|rfl|decide) fun Y y'=>?_;go_simp;refine y' _ _ ?_;clear y' Y)
        (refine wpList_plain rfl fun Y y'=>?_;go_simp;refine y' _ _ ?_;clear y' Y)
        apply wpList_nil
        have HX13:=hid (HX12.out.trans hx13)
        have HPR13:=hid (HPR12.out.ext hx13)
        have HPO13:=hid (HPO12.out.ext hx13)
        clear hx13 HX12 HPR12 HPO12 HSM
        cases db with
        | false =>
         have HNB:=hid (show backF D G = none from bk_no HBP.out (.inr (by rw [HOT.out.yes];exact fun h=>of_decide_eq_false HDB.out (Option.some.inj h))))
         go_upto_region 19 with fail
         apply wp_region_lit
         refine wpList_built rfl _ _ rfl #[.slice none 0 0,.slice none 0 0,.bool false,.bool false,.bool false,.int .i64 0,.int .i64 0,.slice none 0 0] (by kernel_rfl) ?_
         refine plain_store rfl _ _ _ rfl y2 ([.slice none 0 0,.slice none 0 0,.bool false,.bool false,.bool false,.int .i64 0,.int .i64 0,.slice none 0 0]) rfl rfl (H2.out.ext (HX13.out)) (by kernel_rfl) rfl ((by simp [Value.oneCell'])) ?_
         have HRR:=hid ((H2.out.ext (HX13.out)).setRow ([.slice none 0 0,.slice none 0 0,.bool false,.bool false,.bool false,.int .i64 0,.int .i64 0,.slice none 0 0]))
         have HXX:=hid (show Ext w ((w13).setRow y2 ([.slice none 0 0,.slice none 0 0,.bool false,.bool false,.bool false,.int .i64 0,.int .i64 0,.slice none 0 0]).toArray) from below_setRow (HX.out.trans (HX13.out)) ((by have:=HN.out;omega)) _)
         go_simp
         generalize (w13).setRow y2 ([.slice none 0 0,.slice none 0 0,.bool false,.bool false,.bool false,.int .i64 0,.int .i64 0,.slice none 0 0]).toArray = wend at *
         (refine wpList_plain rfl fun Y y'=>?_;go_simp;refine y' _ _ ?_;clear y' Y)
         apply wpList_nil
         go_wp2_with fail
         exact bodyPost_ret (results_row1 rfl rfl HRR.out Tryz.underlying35 rfl (by kernel_rfl)) rfl (⟨none,0,none,0,none,0,noPat,false,rfl,.inr ⟨rfl,HNB.out,rfl⟩,noPat_own _ _,HXX.out⟩)
        | true =>
         have HYS:=hid (show backF D G = some P by rw [HBP.out,if_pos ⟨HOKB.out,by rw [HOT.out.yes,of_decide_eq_true HDB.out]⟩])
         have hy2:=H2.out.ext HX13.out
         have HPS:=hid (fun xs:Array Value=>PatOwn.base (PatOwn.turn HPO13.out hy2 (by decide) (by decide) (setRow_grown w13 y2 xs)) HX.out.size)
         go_upto_region 20 with fail
         apply wp_region_lit
         refine plain_load rfl _ _ rfl p rfl _ _ (HPR13.out) Tryz.underlying35 rfl (by kernel_rfl) ?_
         go_simp
         refine plain_store rfl _ _ _ rfl y2 (patL (.slice oa P.atoms.length oc) (.slice sa P.ret.length sc) (.slice ua P.hint.length uc) P) rfl rfl hy2 (by kernel_rfl) rfl (by simp [patL,Value.oneCell']) ?_
         have HRR:=hid (hy2.setRow (patL (.slice oa P.atoms.length oc) (.slice sa P.ret.length sc) (.slice ua P.hint.length uc) P))
         have HXX:=hid (show Ext w (w13.setRow y2 (patL (.slice oa P.atoms.length oc) (.slice sa P.ret.length sc) (.slice ua P.hint.length uc) P).toArray) from below_setRow (HX.out.trans HX13.out) (by have:=HN.out;omega) _)
         have HQQ:=hid (HPS.out (patL (.slice oa P.atoms.length oc) (.slice sa P.ret.length sc) (.slice ua P.hint.length uc) P).toArray)
         clear HPS hy2
         go_simp
         generalize w13.setRow y2 (patL (.slice oa P.atoms.length oc) (.slice sa P.ret.length sc) (.slice ua P.hint.length uc) P).toArray = wend at *
         (refine wpList_plain rfl fun Y y'=>?_;go_simp;refine y' _ _ ?_;clear y' Y)
         apply wpList_nil
         go_wp2_with fail
         exact bodyPost_ret (results_row1 rfl rfl HRR.out Tryz.underlying35 rfl (by kernel_rfl)) rfl ⟨oa,oc,sa,sc,ua,uc,P,true,rfl,.inl ⟨rfl,HYS.out⟩,HQQ.out,HXX.out⟩
end

end Go.Proofs.YtkmbnghghbfkdaaGreat
