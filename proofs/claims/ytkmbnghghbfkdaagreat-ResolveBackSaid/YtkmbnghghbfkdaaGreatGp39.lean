/- Does the layer do anything? -/
import Derived.Test.YtkmbnghghbfkdaaGreatGp38
set_option linter.unusedSimpArgs false
set_option linter.unusedVariables false
set_option maxHeartbeats 2000000
set_option maxRecDepth 100000
namespace Go.Proofs.YtkmbnghghbfkdaaGreat
open Go.Lib (hid)

section
open Go.RowKit Go.Shelf Go.Sort
attribute [local go_sem] Oper.semAt_some wide_fn wide_depth
theorem GolIn.ext {B:Nat} {w w':World} {v:Value} {G:Gol} (h:GolIn B w v G) (hx:Ext w w'):GolIn B w' v G:=by
 obtain ⟨vv,av,rv,hv,e,h1,h2,h3,h4⟩:=h
 exact ⟨vv,av,rv,hv,e,own_ext h1 hx,own_ext h2 hx,own_ext h3 hx,own_ext h4 hx⟩
theorem GolIn.turn {B g:Nat} {W W':World} {v:Value} {G:Gol} {t:TypeId} {xs:List Value} (h:GolIn B W v G) (hr:RowAt W g t xs) (h1:9 ≠ t) (h2:3 ≠ t) (h3:75 ≠ t) (hg:W.grownBy W' (some g)):GolIn B W' v G:=by
 obtain ⟨vv,av,rv,hv,e,q1,q2,q3,q4⟩:=h
 exact ⟨vv,av,rv,hv,e,own_turn q1 hr h1 hg,own_turn q2 hr h3 hg,own_turn q3 hr h2 hg,own_turn q4 hr h2 hg⟩
theorem DicOwn.turnT {B g:Nat} {W W':World} {vs:Nat → Value × Value} {D:Dic} {t:TypeId} {xs:List Value} (h:DicOwn B W vs D) (hr:RowAt W g t xs) (h3:9 ≠ t) (h4:3 ≠ t) (hg:W.grownBy W' (some g)):DicOwn B W' vs D:=fun i hi=>by
 obtain ⟨a,n,c,b,m,d,e,h1,h2⟩:=h i hi
 exact ⟨a,n,c,b,m,d,e,own_turn h1 hr h3 hg,own_turn h2 hr h4 hg⟩
theorem wkG_fits:wkG.Fits:=⟨by decide,fun s hs=>by
 rw [List.mem_singleton.1 hs];decide⟩
theorem wkQ_fits (v:ByteArray) (h:v.size ≤ 100):(wkQ v).Fits:=⟨fun a ha=>by
 simp only [wkQ,wkA,List.mem_cons,List.not_mem_nil,or_false] at ha
 rcases ha with rfl | rfl
 ·exact ⟨by decide,by decide,by decide,by decide⟩
 ·exact ⟨by dsimp only;decide,by dsimp only;decide,by dsimp only;omega,by dsimp only;decide⟩,by show 2 ≤ 100000;omega⟩
theorem arg_eqlB (a b:Int) (w:World):(binOp .eql 73 (.agg #[.int .i64 a,.int .i64 b]) (.agg #[.int .i64 a,.int .i64 b])).run Tryz.prog w = .ok (.bool true) w:=by
 rw [run_eql_struct,show (10000:Nat) = 9999 + 1 from rfl,run_equalIn_struct (P:=Tryz.prog) w 9999 73 _ _ (by kernel_rfl) (by kernel_rfl)]
 have hf3:(Tryz.prog.fieldsOf 73).toList = _:=congrArg Array.toList (show Tryz.prog.fieldsOf 73 = _ by unfold Program.fieldsOf;rw [Tryz.underlying73])
 rw [hf3]
 simp [Op.eqFields,go_sem,run_equalIn_int]
set_option maxHeartbeats 4000000 in
theorem wakesG_any (w:World):Calls Tryz.prog 9 #[] w fun e w'=>e = .returned (.bool true) ∧ Ext w w':=by
 go_enter Tryz.func9,Tryz.ntmps9
 go_upto_region 1 with fail
 apply wp_region_lit
 refine wpList_plain rfl fun K1 hK1=>?_
 go_simp
 refine (small_any w).mono ?_;rintro e w2 ⟨A,D,rfl,hu,hdn,hx2⟩
 go_simp
 refine hK1 _ _ ?_
 clear hK1 K1
 unfold dv
 iterate 4 (refine wpList_plain rfl fun Y y'=>?_;go_simp;refine y' _ _ ?_;clear y' Y)
 have hax:=Ext.alloc w2 (.cells #[.slice none 0 0,.slice none 0 0,.slice none 0 0,.slice none 0 0,.slice none 0 0,.slice none 0 0,.slice none 0 0,.slice none 0 0,.slice none 0 0,.slice none 0 0] 28)
 have har:RowAt (w2.alloc (.cells #[.slice none 0 0,.slice none 0 0,.slice none 0 0,.slice none 0 0,.slice none 0 0,.slice none 0 0,.slice none 0 0,.slice none 0 0,.slice none 0 0,.slice none 0 0] 28)) w2.heap.size 28 (#[.slice none 0 0,.slice none 0 0,.slice none 0 0,.slice none 0 0,.slice none 0 0,.slice none 0 0,.slice none 0 0,.slice none 0 0,.slice none 0 0,.slice none 0 0]).toList:=RowAt.new _ _ _
 refine plain_store rfl _ _ _ rfl w2.heap.size (dcells (hv A)) rfl rfl har (by kernel_rfl) rfl ((by simp [dcells,hv,Value.oneCell'])) ?_
 have hex:Ext w2 ((w2.alloc (.cells #[.slice none 0 0,.slice none 0 0,.slice none 0 0,.slice none 0 0,.slice none 0 0,.slice none 0 0,.slice none 0 0,.slice none 0 0,.slice none 0 0,.slice none 0 0] 28)).setRow w2.heap.size (dcells (hv A)).toArray):=below_setRow hax (Nat.le_refl _) _
 have HEw3:=hid hex
 have HRy:=hid (har.setRow (dcells (hv A)))
 clear hax har hex
 go_simp
 generalize (w2.alloc (.cells #[.slice none 0 0,.slice none 0 0,.slice none 0 0,.slice none 0 0,.slice none 0 0,.slice none 0 0,.slice none 0 0,.slice none 0 0,.slice none 0 0,.slice none 0 0] 28)).setRow w2.heap.size (dcells (hv A)).toArray = w3 at *
 obtain ⟨y,hsy⟩:∃ x,w2.heap.size = x:=⟨_,rfl⟩
 rw [hsy] at HRy
 simp only [hsy]
 have HSy:=hid hsy
 clear hsy
 (refine wpList_plain rfl fun Y y'=>?_;go_simp;refine y' _ _ ?_;clear y' Y)
 apply wpList_nil
 have HX:=hid (hx2.trans HEw3.out)
 have HD:=hid (hu.ext HEw3.out)
 have HDN:=hid hdn
 have HB:=hid (show RowAt w3 y 28 (dcells (hv A)) from HRy.out)
 clear hu hdn hx2 HEw3 HRy HSy
 have hbx:=boxes3 w3 [.bool false,.string ⟨#[120]⟩] 86 [.int .i64 4,.bool false,.string ⟨#[120]⟩,.string ⟨#[107,110,111,119,115]⟩,.string ⟨#[]⟩,.bool true,.string ⟨#[98,111,98]⟩,.int .i64 3,.bool false,.string ⟨#[120]⟩,.string ⟨#[97,103,101]⟩,.string ⟨#[55]⟩,.bool false,.string ⟨#[]⟩] 88 [.slice (some ⟨w3.heap.size + 1,0,none⟩) 2 2,.slice none 0 0,.bool false,.bool false,.bool false,.int .i64 0,.int .i64 0,.slice none 0 0] 35
 have HBX:=hid hbx
 clear hbx
 go_upto_region 4 with fail
 replace HBX:Hid (Ext w3 (((w3.alloc (.cells #[.bool false,.string ⟨#[120]⟩] 86)).alloc (.cells #[.int .i64 4,.bool false,.string ⟨#[120]⟩,.string ⟨#[107,110,111,119,115]⟩,.string ⟨#[]⟩,.bool true,.string ⟨#[98,111,98]⟩,.int .i64 3,.bool false,.string ⟨#[120]⟩,.string ⟨#[97,103,101]⟩,.string ⟨#[55]⟩,.bool false,.string ⟨#[]⟩] 88)).alloc (.cells #[.slice (some ⟨w3.heap.size + 1,0,none⟩) 2 2,.slice none 0 0,.bool false,.bool false,.bool false,.int .i64 0,.int .i64 0,.slice none 0 0] 35)) ∧ RowAt (((w3.alloc (.cells #[.bool false,.string ⟨#[120]⟩] 86)).alloc (.cells #[.int .i64 4,.bool false,.string ⟨#[120]⟩,.string ⟨#[107,110,111,119,115]⟩,.string ⟨#[]⟩,.bool true,.string ⟨#[98,111,98]⟩,.int .i64 3,.bool false,.string ⟨#[120]⟩,.string ⟨#[97,103,101]⟩,.string ⟨#[55]⟩,.bool false,.string ⟨#[]⟩] 88)).alloc (.cells #[.slice (some ⟨w3.heap.size + 1,0,none⟩) 2 2,.slice none 0 0,.bool false,.bool false,.bool false,.int .i64 0,.int .i64 0,.slice none 0 0] 35)) w3.heap.size 86 [.bool false,.string ⟨#[120]⟩] ∧ RowAt (((w3.alloc (.cells #[.bool false,.string ⟨#[120]⟩] 86)).alloc (.cells #[.int .i64 4,.bool false,.string ⟨#[120]⟩,.string ⟨#[107,110,111,119,115]⟩,.string ⟨#[]⟩,.bool true,.string ⟨#[98,111,98]⟩,.int .i64 3,.bool false,.string ⟨#[120]⟩,.string ⟨#[97,103,101]⟩,.string ⟨#[55]⟩,.bool false,.string ⟨#[]⟩] 88)).alloc (.cells #[.slice (some ⟨w3.heap.size + 1,0,none⟩) 2 2,.slice none 0 0,.bool false,.bool false,.bool false,.int .i64 0,.int .i64 0,.slice none 0 0] 35)) (w3.heap.size + 1) 88 ((wkA sevenS).flatMap atCells) ∧ RowAt (((w3.alloc (.cells #[.bool false,.string ⟨#[120]⟩] 86)).alloc (.cells #[.int .i64 4,.bool false,.string ⟨#[120]⟩,.string ⟨#[107,110,111,119,115]⟩,.string ⟨#[]⟩,.bool true,.string ⟨#[98,111,98]⟩,.int .i64 3,.bool false,.string ⟨#[120]⟩,.string ⟨#[97,103,101]⟩,.string ⟨#[55]⟩,.bool false,.string ⟨#[]⟩] 88)).alloc (.cells #[.slice (some ⟨w3.heap.size + 1,0,none⟩) 2 2,.slice none 0 0,.bool false,.bool false,.bool false,.int .i64 0,.int .i64 0,.slice none 0 0] 35)) (w3.heap.size + 1 + 1) 35 (patL (.slice (some ⟨w3.heap.size + 1,0,none⟩) 2 2) (.slice none 0 0) (.slice none 0 0) (wkQ sevenS))):=HBX
 generalize ((w3.alloc (.cells #[.bool false,.string ⟨#[120]⟩] 86)).alloc (.cells #[.int .i64 4,.bool false,.string ⟨#[120]⟩,.string ⟨#[107,110,111,119,115]⟩,.string ⟨#[]⟩,.bool true,.string ⟨#[98,111,98]⟩,.int .i64 3,.bool false,.string ⟨#[120]⟩,.string ⟨#[97,103,101]⟩,.string ⟨#[55]⟩,.bool false,.string ⟨#[]⟩] 88)).alloc (.cells #[.slice (some ⟨w3.heap.size + 1,0,none⟩) 2 2,.slice none 0 0,.bool false,.bool false,.bool false,.int .i64 0,.int .i64 0,.slice none 0 0] 35) = w4 at *
 obtain ⟨g1,hg1⟩:∃ x,w3.heap.size = x:=⟨_,rfl⟩
 have hyl:w.heap.size ≤ g1:=by rw [← hg1];exact HX.out.size
 rw [hg1] at HBX
 simp only [hg1]
 clear hg1
 obtain ⟨g2,hg2⟩:∃ x,g1 + 1 = x:=⟨_,rfl⟩
 rw [hg2] at HBX
 simp only [hg2]
 obtain ⟨g3,hg3⟩:∃ x,g2 + 1 = x:=⟨_,rfl⟩
 rw [hg3] at HBX
 simp only [hg3]
 have HGL:=hid (show w.heap.size ≤ g2 ∧ g2 < g3 by omega)
 clear hyl hg2 hg3
 have HX4:=hid (HX.out.trans HBX.out.1)
 have HD4:=hid (HD.out.ext HBX.out.1)
 replace HB:=hid (HB.out.ext HBX.out.1)
 have HA4:=hid HBX.out.2.2.1
 have HP4:=hid HBX.out.2.2.2
 clear HBX HX HD
 have hq:=goal_any A D (wkQ sevenS) (.slice (some ⟨g2,0,none⟩) 2 2) (.slice none 0 0) (.slice none 0 0) w4 HD4.out.view (HDN.out.ok.sizes HDN.out.slots) (by have:=HA4.out.sl 2 2 (Nat.le_refl _) (by unfold maxLen;omega);exact this) (Sl.nil _) (Sl.nil _) (wkQ_fits _ (by decide))
 have HQ:=hid hq
 clear hq
 unfold dv patV at HQ
 apply wp_region_lit
 refine plain_load rfl _ _ rfl y rfl _ _ (HB.out) Tryz.underlying28 rfl (by kernel_rfl) ?_
 go_simp
 refine plain_load rfl _ _ rfl g3 rfl _ _ (HP4.out) Tryz.underlying35 rfl (by kernel_rfl) ?_
 go_simp
 refine wpList_plain rfl fun K1 hK1=>?_
 go_simp
 refine HQ.out.mono ?_;rintro e w5 ⟨gv,G,n,c,rfl,hof,hgi,hx5⟩
 go_simp
 refine hK1 _ _ ?_
 clear hK1 K1
 obtain ⟨rfl,rfl,rfl⟩:=wk_of HDN.out hof
 obtain ⟨vv,av,rv,hv2,rfl,q1,q2,q3,q4⟩:=id hgi
 have HGI:=hid hgi
 obtain ⟨va2,vc2,rfl⟩:=own_vw q1
 obtain ⟨aa2,ac2,rfl⟩:=own_vw q2
 obtain ⟨ra2,rc2,rfl⟩:=own_vw q3
 obtain ⟨ha2,hc2,rfl⟩:=own_vw q4
 clear q1 q2 q3 q4 hof hgi HQ
 have HX5:=hid (HX4.out.trans hx5)
 have HD5:=hid (HD4.out.ext hx5)
 replace HB:=hid (HB.out.ext hx5)
 have HA5:=hid (HA4.out.ext hx5)
 have HP5:=hid (HP4.out.ext hx5)
 clear hx5 HX4 HD4 HA4 HP4
 unfold golV
 iterate 5 (refine wpList_plain rfl fun Y y'=>?_;go_simp;refine y' _ _ ?_;clear y' Y)
 have hax:=Ext.alloc w5 (.cells #[.slice none 0 0,.slice none 0 0,.slice none 0 0,.bool false,.bool false,.bool false,.int .i64 0,.int .i64 0,.slice none 0 0] 39)
 have har:RowAt (w5.alloc (.cells #[.slice none 0 0,.slice none 0 0,.slice none 0 0,.bool false,.bool false,.bool false,.int .i64 0,.int .i64 0,.slice none 0 0] 39)) w5.heap.size 39 (#[.slice none 0 0,.slice none 0 0,.slice none 0 0,.bool false,.bool false,.bool false,.int .i64 0,.int .i64 0,.slice none 0 0]).toList:=RowAt.new _ _ _
 refine plain_store rfl _ _ _ rfl w5.heap.size (golC (.slice va2 wkG.vars.length vc2) (.slice aa2 wkG.atoms.length ac2) (.slice ra2 wkG.ret.length rc2) (.slice ha2 wkG.hint.length hc2) wkG) rfl rfl har (by kernel_rfl) rfl ((by simp [golC,Value.oneCell'])) ?_
 have hex:Ext w5 ((w5.alloc (.cells #[.slice none 0 0,.slice none 0 0,.slice none 0 0,.bool false,.bool false,.bool false,.int .i64 0,.int .i64 0,.slice none 0 0] 39)).setRow w5.heap.size (golC (.slice va2 wkG.vars.length vc2) (.slice aa2 wkG.atoms.length ac2) (.slice ra2 wkG.ret.length rc2) (.slice ha2 wkG.hint.length hc2) wkG).toArray):=below_setRow hax (Nat.le_refl _) _
 have HEw6:=hid hex
 have HRg5:=hid (har.setRow (golC (.slice va2 wkG.vars.length vc2) (.slice aa2 wkG.atoms.length ac2) (.slice ra2 wkG.ret.length rc2) (.slice ha2 wkG.hint.length hc2) wkG))
 clear hax har hex
 go_simp
 generalize (w5.alloc (.cells #[.slice none 0 0,.slice none 0 0,.slice none 0 0,.bool false,.bool false,.bool false,.int .i64 0,.int .i64 0,.slice none 0 0] 39)).setRow w5.heap.size (golC (.slice va2 wkG.vars.length vc2) (.slice aa2 wkG.atoms.length ac2) (.slice ra2 wkG.ret.length rc2) (.slice ha2 wkG.hint.length hc2) wkG).toArray = w6 at *
 obtain ⟨g5,hsg5⟩:∃ x,w5.heap.size = x:=⟨_,rfl⟩
 rw [hsg5] at HRg5
 simp only [hsg5]
 have HSg5:=hid hsg5
 clear hsg5
 iterate 2 (refine wpList_plain rfl fun Y y'=>?_;go_simp;refine y' _ _ ?_;clear y' Y)
 apply wpList_nil
 have HX6:=hid (HX5.out.trans HEw6.out)
 have HD6:=hid (HD5.out.ext HEw6.out)
 replace HB:=hid (HB.out.ext HEw6.out)
 have HA6:=hid (HA5.out.ext HEw6.out)
 have HP6:=hid (HP5.out.ext HEw6.out)
 have HG6:=hid (HGI.out.ext HEw6.out)
 have HR6:=hid (show RowAt w6 g5 39 (golC (.slice va2 wkG.vars.length vc2) (.slice aa2 wkG.atoms.length ac2) (.slice ra2 wkG.ret.length rc2) (.slice ha2 wkG.hint.length hc2) wkG) from HRg5.out)
 clear HEw6 HX5 HD5 HA5 HP5 HGI HRg5
 have hbk:=back_any A D wkG _ w6 HD6.out.view (HDN.out.ok.sizes HDN.out.slots) HG6.out.at_ wkG_fits
 have HBK:=hid hbk
 clear hbk
 unfold dv golV at HBK
 go_upto_region 5 with fail
 apply wp_region_lit
 refine plain_load rfl _ _ rfl y rfl _ _ (HB.out) Tryz.underlying28 rfl (by kernel_rfl) ?_
 go_simp
 refine plain_load rfl _ _ rfl g5 rfl _ _ (HR6.out) Tryz.underlying39 rfl (by kernel_rfl) ?_
 go_simp
 refine wpList_plain rfl fun K1 hK1=>?_
 go_simp
 refine HBK.out.mono ?_;rintro e w7 ⟨pv,P,c,rfl,hbr,hpo,hx7⟩
 go_simp
 refine hK1 _ _ ?_
 clear hK1 K1
 obtain ⟨rfl,rfl⟩:=wk_back HDN.out hbr
 obtain ⟨pav,prv,phv,rfl,q1,q2,q3⟩:=hpo
 obtain ⟨pa7,pc7,rfl⟩:=own_vw q1
 obtain ⟨pr7,prc7,rfl⟩:=own_vw q2
 obtain ⟨ph7,phc7,rfl⟩:=own_vw q3
 clear q1 q2 q3 hbr HBK
 unfold patV
 have HX7:=hid (HX6.out.trans hx7)
 have HD7:=hid (HD6.out.ext hx7)
 replace HB:=hid (HB.out.ext hx7)
 have HA7:=hid (HA6.out.ext hx7)
 have HP7:=hid (HP6.out.ext hx7)
 have HG7:=hid (HG6.out.ext hx7)
 have HR7:=hid (HR6.out.ext hx7)
 clear hx7 HX6 HD6 HA6 HP6 HG6 HR6
 iterate 4 (refine wpList_plain rfl fun Y y'=>?_;go_simp;refine y' _ _ ?_;clear y' Y)
 have hax:=Ext.alloc w7 (.cells #[.slice none 0 0,.slice none 0 0,.bool false,.bool false,.bool false,.int .i64 0,.int .i64 0,.slice none 0 0] 35)
 have har:RowAt (w7.alloc (.cells #[.slice none 0 0,.slice none 0 0,.bool false,.bool false,.bool false,.int .i64 0,.int .i64 0,.slice none 0 0] 35)) w7.heap.size 35 (#[.slice none 0 0,.slice none 0 0,.bool false,.bool false,.bool false,.int .i64 0,.int .i64 0,.slice none 0 0]).toList:=RowAt.new _ _ _
 refine plain_store rfl _ _ _ rfl w7.heap.size (patL (.slice pa7 (wkQ sevenS).atoms.length pc7) (.slice pr7 (wkQ sevenS).ret.length prc7) (.slice ph7 (wkQ sevenS).hint.length phc7) (wkQ sevenS)) rfl rfl har (by kernel_rfl) rfl ((by simp [patL,Value.oneCell'])) ?_
 have hex:Ext w7 ((w7.alloc (.cells #[.slice none 0 0,.slice none 0 0,.bool false,.bool false,.bool false,.int .i64 0,.int .i64 0,.slice none 0 0] 35)).setRow w7.heap.size (patL (.slice pa7 (wkQ sevenS).atoms.length pc7) (.slice pr7 (wkQ sevenS).ret.length prc7) (.slice ph7 (wkQ sevenS).hint.length phc7) (wkQ sevenS)).toArray):=below_setRow hax (Nat.le_refl _) _
 have HEw8:=hid hex
 have HRg8:=hid (har.setRow (patL (.slice pa7 (wkQ sevenS).atoms.length pc7) (.slice pr7 (wkQ sevenS).ret.length prc7) (.slice ph7 (wkQ sevenS).hint.length phc7) (wkQ sevenS)))
 clear hax har hex
 go_simp
 generalize (w7.alloc (.cells #[.slice none 0 0,.slice none 0 0,.bool false,.bool false,.bool false,.int .i64 0,.int .i64 0,.slice none 0 0] 35)).setRow w7.heap.size (patL (.slice pa7 (wkQ sevenS).atoms.length pc7) (.slice pr7 (wkQ sevenS).ret.length prc7) (.slice ph7 (wkQ sevenS).hint.length phc7) (wkQ sevenS)).toArray = w8 at *
 obtain ⟨g8,hsg8⟩:∃ x,w7.heap.size = x:=⟨_,rfl⟩
 rw [hsg8] at HRg8
 simp only [hsg8]
 have HSg8:=hid hsg8
 clear hsg8
 (refine wpList_plain rfl fun Y y'=>?_;go_simp;refine y' _ _ ?_;clear y' Y)
 apply wpList_nil
 have HX8:=hid (HX7.out.trans HEw8.out)
 have HD8:=hid (HD7.out.ext HEw8.out)
 replace HB:=hid (HB.out.ext HEw8.out)
 have HA8:=hid (HA7.out.ext HEw8.out)
 have HP8:=hid (HP7.out.ext HEw8.out)
 have HG8:=hid (HG7.out.ext HEw8.out)
 have HR8:=hid (HR7.out.ext HEw8.out)
 have HRP:=hid (show RowAt w8 g8 35 (patL (.slice pa7 (wkQ sevenS).atoms.length pc7) (.slice pr7 (wkQ sevenS).ret.length prc7) (.slice ph7 (wkQ sevenS).hint.length phc7) (wkQ sevenS)) from HRg8.out)
 clear HEw8 HX7 HD7 HA7 HP7 HG7 HR7 HRg8 HSg8 HSg5
 have c0:=HP8.out.cell (i:=0) rfl
 have c1:=HA8.out.cell (i:=11) rfl
 have f1:=HA8.out.frozen 11
 go_upto_region 7 with fail
 clear c0 c1 f1
 have hgs:=grown_set w8 g2 11 (.string ⟨#[56]⟩)
 have HX9:=hid (Ext.set_of HX8.out HGL.out.1 (o:=11) (.string ⟨#[56]⟩))
 have HD9:=hid (HD8.out.turnT HA8.out (by decide) (by decide) hgs)
 have hat:RowAt (w8.setCell ⟨g2,11,none⟩ (.string ⟨#[56]⟩)) g2 88 ((wkA eightS).flatMap atCells):=HA8.out.set 11 _
 have HA9:=hid hat
 replace HB:=hid (HB.out.kept hgs (fun e=>row_ne HA8.out HB.out (by decide) (Option.some.inj e)))
 have hp9:RowAt (w8.setCell ⟨g2,11,none⟩ (.string ⟨#[56]⟩)) g3 35 (patL (.slice (some ⟨g2,0,none⟩) 2 2) (.slice none 0 0) (.slice none 0 0) (wkQ eightS)):=HP8.out.kept hgs (fun e=>row_ne HA8.out HP8.out (by decide) (Option.some.inj e))
 have HP9:=hid hp9
 have HR9:=hid (HR8.out.kept hgs (fun e=>row_ne HA8.out HR8.out (by decide) (Option.some.inj e)))
 have HRP9:=hid (HRP.out.kept hgs (fun e=>row_ne HA8.out HRP.out (by decide) (Option.some.inj e)))
 have HG9:=hid (HG8.out.turn HA8.out (by decide) (by decide) (by decide) hgs)
 clear hat hp9 hgs HX8 HD8 HP8 HR8 HRP HG8 HA8
 generalize w8.setCell ⟨g2,11,none⟩ (.string ⟨#[56]⟩) = w9 at *
 have hq:=goal_any A D (wkQ eightS) (.slice (some ⟨g2,0,none⟩) 2 2) (.slice none 0 0) (.slice none 0 0) w9 HD9.out.view (HDN.out.ok.sizes HDN.out.slots) (by have:=HA9.out.sl 2 2 (Nat.le_refl _) (by unfold maxLen;omega);exact this) (Sl.nil _) (Sl.nil _) (wkQ_fits _ (by decide))
 have HQ:=hid hq
 clear hq
 unfold dv patV at HQ
 apply wp_region_lit
 refine plain_load rfl _ _ rfl y rfl _ _ (HB.out) Tryz.underlying28 rfl (by kernel_rfl) ?_
 go_simp
 refine plain_load rfl _ _ rfl g3 rfl _ _ (HP9.out) Tryz.underlying35 rfl (by kernel_rfl) ?_
 go_simp
 refine wpList_plain rfl fun K1 hK1=>?_
 go_simp
 refine HQ.out.mono ?_;rintro e w10 ⟨gv,G,n,c,rfl,hof,hgi,hx10⟩
 go_simp
 refine hK1 _ _ ?_
 clear hK1 K1
 obtain ⟨rfl,rfl⟩:=wk_of8 HDN.out hof
 obtain ⟨vv,av,rv,hv2,rfl,q1,q2,q3,q4⟩:=id hgi
 obtain ⟨va8,vc8,rfl⟩:=own_vw q1
 obtain ⟨aa8,ac8,rfl⟩:=own_vw q2
 obtain ⟨ra8,rc8,rfl⟩:=own_vw q3
 obtain ⟨ha8,hc8,rfl⟩:=own_vw q4
 clear q1 q2 q3 q4 hof hgi HQ
 have HX10:=hid (HX9.out.trans hx10)
 have HD10:=hid (HD9.out.ext hx10)
 replace HB:=hid (HB.out.ext hx10)
 have HR10:=hid (HR9.out.ext hx10)
 have HRP10:=hid (HRP9.out.ext hx10)
 have HG10:=hid (HG9.out.ext hx10)
 clear hx10 HX9 HD9 HA9 HP9 HR9 HRP9 HG9
 unfold golV
 iterate 5 (refine wpList_plain rfl fun Y y'=>?_;go_simp;refine y' _ _ ?_;clear y' Y)
 have hax:=Ext.alloc w10 (.cells #[.slice none 0 0,.slice none 0 0,.slice none 0 0,.bool false,.bool false,.bool false,.int .i64 0,.int .i64 0,.slice none 0 0] 39)
 have har:RowAt (w10.alloc (.cells #[.slice none 0 0,.slice none 0 0,.slice none 0 0,.bool false,.bool false,.bool false,.int .i64 0,.int .i64 0,.slice none 0 0] 39)) w10.heap.size 39 (#[.slice none 0 0,.slice none 0 0,.slice none 0 0,.bool false,.bool false,.bool false,.int .i64 0,.int .i64 0,.slice none 0 0]).toList:=RowAt.new _ _ _
 refine plain_store rfl _ _ _ rfl w10.heap.size (golC (.slice va8 G.vars.length vc8) (.slice aa8 G.atoms.length ac8) (.slice ra8 G.ret.length rc8) (.slice ha8 G.hint.length hc8) G) rfl rfl har (by kernel_rfl) rfl ((by simp [golC,Value.oneCell'])) ?_
 have hex:Ext w10 ((w10.alloc (.cells #[.slice none 0 0,.slice none 0 0,.slice none 0 0,.bool false,.bool false,.bool false,.int .i64 0,.int .i64 0,.slice none 0 0] 39)).setRow w10.heap.size (golC (.slice va8 G.vars.length vc8) (.slice aa8 G.atoms.length ac8) (.slice ra8 G.ret.length rc8) (.slice ha8 G.hint.length hc8) G).toArray):=below_setRow hax (Nat.le_refl _) _
 have HEw11:=hid hex
 have HRg10:=hid (har.setRow (golC (.slice va8 G.vars.length vc8) (.slice aa8 G.atoms.length ac8) (.slice ra8 G.ret.length rc8) (.slice ha8 G.hint.length hc8) G))
 clear hax har hex
 go_simp
 generalize (w10.alloc (.cells #[.slice none 0 0,.slice none 0 0,.slice none 0 0,.bool false,.bool false,.bool false,.int .i64 0,.int .i64 0,.slice none 0 0] 39)).setRow w10.heap.size (golC (.slice va8 G.vars.length vc8) (.slice aa8 G.atoms.length ac8) (.slice ra8 G.ret.length rc8) (.slice ha8 G.hint.length hc8) G).toArray = w11 at *
 obtain ⟨g10,hsg10⟩:∃ x,w10.heap.size = x:=⟨_,rfl⟩
 rw [hsg10] at HRg10
 simp only [hsg10]
 have HSg10:=hid hsg10
 clear hsg10
 iterate 2 (refine wpList_plain rfl fun Y y'=>?_;go_simp;refine y' _ _ ?_;clear y' Y)
 apply wpList_nil
 have HX11:=hid (HX10.out.trans HEw11.out)
 have HD11:=hid (HD10.out.ext HEw11.out)
 replace HB:=hid (HB.out.ext HEw11.out)
 have HR11:=hid (HR10.out.ext HEw11.out)
 have HRP11:=hid (HRP10.out.ext HEw11.out)
 have HG11:=hid (HG10.out.ext HEw11.out)
 clear HEw11 HX10 HD10 HR10 HRP10 HG10 HRg10 HSg10
 go_upto_region 8 with fail
 apply wp_region_lit
 refine plain_load rfl _ _ rfl y rfl _ _ (HB.out) Tryz.underlying28 rfl (by kernel_rfl) ?_
 go_simp
 iterate 2 (refine wpList_plain rfl fun Y y'=>?_;go_simp;refine y' _ _ ?_;clear y' Y)
 have hbx:=boxes2 w11 [.int .u64 1,.int .u64 0] 61 [.slice (some ⟨w11.heap.size,0,none⟩) 2 2] 59
 have HBX:Hid (Ext w11 ((w11.alloc (.cells #[.int .u64 1,.int .u64 0] 61)).alloc (.cells #[.slice (some ⟨w11.heap.size,0,none⟩) 2 2] 59)) ∧ RowAt ((w11.alloc (.cells #[.int .u64 1,.int .u64 0] 61)).alloc (.cells #[.slice (some ⟨w11.heap.size,0,none⟩) 2 2] 59)) w11.heap.size 61 [.int .u64 1,.int .u64 0] ∧ RowAt ((w11.alloc (.cells #[.int .u64 1,.int .u64 0] 61)).alloc (.cells #[.slice (some ⟨w11.heap.size,0,none⟩) 2 2] 59)) (w11.heap.size + 1) 59 [.slice (some ⟨w11.heap.size,0,none⟩) 2 2]):=hid hbx
 clear hbx
 generalize (w11.alloc (.cells #[.int .u64 1,.int .u64 0] 61)).alloc (.cells #[.slice (some ⟨w11.heap.size,0,none⟩) 2 2] 59) = w12 at *
 obtain ⟨k1,hk1⟩:∃ x,w11.heap.size = x:=⟨_,rfl⟩
 rw [hk1] at HBX
 simp only [hk1]
 clear hk1
 have hrv:RowsV w12 .u64 (.slice (some ⟨k1 + 1,0,none⟩) 1 1) [(.slice (some ⟨k1,0,none⟩) 2 2,[1,0])]:=by
  refine ⟨?_,fun x hx=>?_⟩
  ·have:=HBX.out.2.2.sl 1 1 (Nat.le_refl _) (by unfold maxLen;omega);exact this
  ·rw [List.mem_singleton.1 hx]
   have:=HBX.out.2.1.sl 2 2 (Nat.le_refl _) (by unfold maxLen;omega);exact this
 have HD12:=hid (HD11.out.ext HBX.out.1)
 have HX12:=hid (HX11.out.trans HBX.out.1)
 have HR12:=hid (HR11.out.ext HBX.out.1)
 have HRP12:=hid (HRP11.out.ext HBX.out.1)
 have HG12:=hid (HG11.out.ext HBX.out.1)
 have hkk:=keys_any A D _ _ w12 HD12.out.view (HDN.out.ok.sizes HDN.out.slots) hrv (by
  intro x hx n hn
  rw [List.mem_singleton.1 hx] at hn
  simp at hn
  rcases hn with rfl | rfl <;> omega) (by simp) (by intro x hx;rw [List.mem_singleton.1 hx];simp)
 have HKK:=hid hkk
 clear hkk hrv HD11 HX11 HR11 HRP11 HG11 HBX HB HD12
 unfold dv at HKK
 refine wpList_plain rfl fun K1 hK1=>?_
 go_simp
 refine HKK.out.mono ?_;rintro e w13 ⟨kv,xs,c,rfl,hkr,htr,hx13⟩
 go_simp
 refine hK1 _ _ ?_
 clear hK1 K1
 clear HKK
 obtain ⟨hxs,rfl⟩:=wk_keys HDN.out hkr
 obtain ⟨q,hq⟩:∃ q,xs = [(q,[bobS,annS])]:=by
  match xs,hxs with
  | [(a,b)],h=>simp at h;exact ⟨a,by rw [h]⟩
 subst hq
 obtain ⟨t1,t2⟩:=htr
 have t3:=t2 _ (List.mem_singleton.2 rfl)
 dsimp only at t3
 obtain ⟨ka,kc,rfl⟩:=own_vw t1
 obtain ⟨qa,qc,rfl⟩:=own_vw t3
 obtain ⟨kb,ko,rfl,kcell⟩:=Sl.at_ (Sl.of_own t1) (k:=0) (by simp)
 have HX13:=hid (HX12.out.trans hx13)
 have HR13:=hid (HR12.out.ext hx13)
 have HRP13:=hid (HRP12.out.ext hx13)
 have HG13:=hid (HG12.out.ext hx13)
 have HT3:=hid t3
 have HKC:=hid kcell
 clear hxs hkr t1 t2 t3 kcell hx13 HX12 HR12 HRP12 HG12
 iterate 5 (refine wpList_plain rfl fun Y y'=>?_;go_simp;refine y' _ _ ?_;clear y' Y)
 apply wpList_nil
 obtain ⟨vv,av,rv,hv2,he,q1,q2,q3,q4⟩:=HG13.out
 unfold golV golC at he
 simp only [Value.agg.injEq,Array.mk.injEq,List.cons.injEq] at he
 obtain ⟨rfl,rfl,rfl,_,_,_,_,_,rfl,_⟩:=he
 have hbn:Bnds w13 _ wkG.atoms:=Sl.of_own q2
 obtain ⟨bb,bo,rfl,e0,e1,e2,e3,e4,e5⟩:=hbn.at_ (k:=0) (by decide)
 have e4':w13.cell? ⟨bb,bo + 4,none⟩ = some (.int .i64 (-1)):=by have:=e4;simp only [Nat.zero_mul,Nat.add_zero] at this;exact this
 have e5':w13.cell? ⟨bb,bo + 5,none⟩ = some (.int .i64 1):=by have:=e5;simp only [Nat.zero_mul,Nat.add_zero] at this;exact this
 have p0:w13.cell? ⟨g8,0,none⟩ = some (.slice pa7 2 pc7):=HRP13.out.cell (i:=0) rfl
 have r1:w13.cell? ⟨g5,1,none⟩ = some (.slice (some ⟨bb,bo,none⟩) 2 ac2):=HR13.out.cell (i:=1) rfl
 have r2:w13.cell? ⟨g5,2,none⟩ = some (.slice ra2 1 rc2):=HR13.out.cell (i:=2) rfl
 have HI:=hid (show Ints w13 .i64 (.slice ra2 1 rc2) [0] from Sl.of_own q3)
 have HKC':w13.cell? ⟨kb,ko,none⟩ = some (.slice qa 2 qc):=by have:=HKC.out;simp only [Nat.add_zero] at this;exact this
 have harg:=arg_eqlB (-1) 1
 clear e0 e1 e2 e3 e4 e5 hbn q1 q2 q3 q4 HRP13 HR13 HKC
 go_upto_region 9 with fail
 go_wp2_with fail
 refine (eqInts_any _ _ [0] [0] _ (HI.out.ext (Ext.alloc _ _)) (Sl.new w13 #[.int .i64 0] 3 1 1 (Nat.le_refl _) (by unfold maxLen;omega))).mono ?_
 rintro e w14 ⟨he,hx14⟩
 rw [decide_eq_true rfl] at he
 subst he
 have hxa:=(Ext.alloc w13 (.cells #[.int .i64 0] 3)).trans hx14
 have k14:=ext_cell hxa HKC'
 have HT4:=hid (own_ext HT3.out hxa)
 have HX14:=hid (HX13.out.trans hxa)
 clear hx14 hxa HKC' HT3 HX13 p0 r1 r2 e4' e5' harg HI
 go_wp2_with fail
 refine (eqStrs_any _ _ [bobS,annS] [bobS,annS] _ (Strs.ext (Sl.of_own HT4.out) (Ext.alloc _ _)) (Sl.new w14 #[.string ⟨#[98,111,98]⟩,.string ⟨#[97,110,110]⟩] 9 2 2 (Nat.le_refl _) (by unfold maxLen;omega))).mono ?_
 rintro e w15 ⟨he,hx15⟩
 rw [decide_eq_true rfl] at he
 subst he
 have HX15:=hid (HX14.out.trans ((Ext.alloc w14 (.cells #[.string ⟨#[98,111,98]⟩,.string ⟨#[97,110,110]⟩] 9)).trans hx15))
 clear hx15 k14 HT4 HX14
 go_wp2_with fail
 go_ret
 exact ⟨rfl,HX15.out⟩
end

end Go.Proofs.YtkmbnghghbfkdaaGreat
