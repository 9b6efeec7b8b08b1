/- The law ResolveBack returns true. -/
import Derived.Test.YtkmbnghghbfkdaaGreatGp47
import Derived.Test.YtkmbnghghbfkdaaGreatGp40
import Derived.Test.YtkmbnghghbfkdaaGreatGp22
set_option linter.unusedSimpArgs false
set_option linter.unusedVariables false
set_option maxHeartbeats 2000000
set_option maxRecDepth 100000
namespace Go.Proofs.YtkmbnghghbfkdaaGreat
open Go.Lib (hid)

section
open Go.RowKit Go.Shelf Go.Sort
attribute [local go_sem] Oper.semAt_some wide_fn wide_depth
def groB13:Nat → Gro
 | 4=>.read
 | 5=>.read
 | 6=>.grow
 | 11=>.read
 | 12=>.read
 | 13=>.grow
 | 17=>.read
 | 18=>.read
 | 19=>.grow
 | 20=>.read
 | 21=>.read
 | 22=>.grow
 | 26=>.read
 | 27=>.read
 | 28=>.grow
 | 29=>.grow
 | _=>.pure
def groB16:Nat → Gro
 | 1=>.read
 | 2=>.grow
 | 3=>.grow
 | 5=>.read
 | 6=>.read
 | 7=>.grow
 | 8=>.grow
 | _=>.pure
theorem cutG_fits {G:Gol} (h:G.Near):(cutG G).Fits:=⟨⟨by simp [cutG];omega,by simp [cutG];omega,by simp [cutG];omega,by simp [cutG];omega⟩,fun s hs=>by
 have:=h s (List.mem_of_mem_take hs)
 have hr:reachBytes ≤ 9223372036854775800:=by decide
 omega⟩
theorem patz_no:∀ x ∈ ([.slice none 0 0,.slice none 0 0,.bool false,.bool false,.bool false,.int .i64 0,.int .i64 0,.slice none 0 0]:List Value),∀ s,x ≠ .string s:=fun x hx s=>by rintro rfl;simp at hx
theorem BackR.not_dict {D:Dic} {G:Gol} {P:Pat} {c:Int} (h:BackR D G P c) (hd:¬ DicOK D):P = noPat ∧ c = 160:=by
 cases h with
 | dict h=>exact ⟨rfl,rfl⟩
 | goal h _=>exact absurd h hd
 | ok h _=>exact absurd h hd
theorem BackR.same {D:Dic} {G:Gol} {P P':Pat} {c:Int} {b:Bool} (h:BackR D G P c) (hd:DicOK D) (h':BkT D G P' b):P' = P ∧ c = (if b = true then 0 else 281):=by
 rcases h' with ⟨rfl,h1⟩ | ⟨rfl,h1,h2⟩
 ·obtain ⟨a,b⟩:=h.of hd h1
  exact ⟨a.symm,b⟩
 ·cases h with
  | dict h=>exact absurd hd h
  | goal h h'=>exact ⟨h2,rfl⟩
  | ok h h'=>rw [h1] at h';cases h'
theorem BackR.det {D:Dic} {G:Gol} {P P':Pat} {c c':Int} (h:BackR D G P c) (h':BackR D G P' c'):c = c':=by
 cases h with
 | dict h=>exact (h'.not_dict h).2.symm
 | goal h h1 =>
  cases h' with
  | dict h2=>exact absurd h h2
  | goal _ _=>rfl
  | ok _ h2=>rw [h1] at h2;cases h2
 | ok h h1=>exact (h'.of h h1).2.symm
theorem BackR.few {D:Dic} {G:Gol} {P:Pat} {c:Int} (h:BackR D G P c) (hf:G.Fits):P.atoms.length ≤ 1000000000:=by
 cases h with
 | dict h=>simp [noPat]
 | goal h _=>simp [noPat]
 | ok h hb =>
  unfold backF at hb
  split at hb
  ·split at hb
   ·split at hb
    ·cases hb
     have h1:=(preF_len (atmF D G.vars) G.atoms).1
     have:=hf.few.1
     show (atmsF D G.vars G.atoms).1.length ≤ _
     unfold atmsF
     omega
    ·cases hb
   ·cases hb
  ·cases hb
def rV3 (a b c:Value):Nat → Value
 | 0=>a
 | 1=>b
 | _=>c
def rO3 (B:Nat) (D:Dic) (G H:Gol):Nat → World → Value → Prop
 | 0=>fun W c=>∃ A:Heads,c = dv (hv A) ∧ DicOwn B W (hv A) D
 | 1=>fun W c=>GolIn B W c G
 | _=>fun W c=>GolIn B W c H
def rT3:Nat → TypeId
 | 0=>28
 | _=>39
def rZ3:Nat → List Value
 | 0=>[.slice none 0 0,.slice none 0 0,.slice none 0 0,.slice none 0 0,.slice none 0 0,.slice none 0 0,.slice none 0 0,.slice none 0 0,.slice none 0 0,.slice none 0 0]
 | _=>[.slice none 0 0,.slice none 0 0,.slice none 0 0,.bool false,.bool false,.bool false,.int .i64 0,.int .i64 0,.slice none 0 0]
def depR3:Nat → List Nat
 | 1=>[0]
 | 3=>[2]
 | 5=>[4]
 | 9=>[1,6]
 | 10=>[3,7]
 | 11=>[5,8]
 | _=>[]
theorem rT3_ne (j:Nat) (hj:j < 3):9 ≠ rT3 j ∧ 3 ≠ rT3 j ∧ 75 ≠ rT3 j:=by
 match j,hj with
 | 0,_=>exact ⟨by decide,by decide,by decide⟩
 | 1,_=>exact ⟨by decide,by decide,by decide⟩
 | 2,_=>exact ⟨by decide,by decide,by decide⟩
theorem rO3_firm (B:Nat) (D:Dic) (G H:Gol):FirmN 3 rT3 (rO3 B D G H):=by
 refine ⟨fun i hi W W' c hx h=>?_,fun i j hi hj W g ys c xs hr h=>?_⟩
 ·match i,hi,h with
  | 0,_,⟨A,e,h⟩=>exact ⟨A,e,h.ext hx⟩
  | 1,_,h=>exact GolIn.ext h hx
  | 2,_,h=>exact GolIn.ext h hx
 ·have hg:=setRow_grown W g xs
  obtain ⟨n1,n2,n3⟩:=rT3_ne j hj
  match i,hi,h with
  | 0,_,⟨A,e,h⟩=>exact ⟨A,e,h.turnT hr n1 n2 hg⟩
  | 1,_,h=>exact GolIn.turn h hr n1 n2 n3 hg
  | 2,_,h=>exact GolIn.turn h hr n1 n2 n3 hg
set_option maxHeartbeats 4000000 in
theorem rback_walk (v0:Value) (D:Dic) (v1 v2:Value) (w:World) (h0:∃ vs,v0 = dv vs ∧ DicV w vs D ∧ ∀ i,i < 5 → ∀ s ∈ (D i).1,s.size ≤ 9223372036854775807) (h1:∃ G:Gol,GolAt w v1 G ∧ G.Near) (h2:∃ G:Gol,GolAt w v2 G ∧ G.Near) :
 Calls Tryz.prog 8 #[v0,v1,v2] w fun e w'=>e = .returned (.bool true) ∧ Ext w w':=by
 have hmo:Tryz.prog.follows .mixedOrders = true:=by kernel_rfl
 obtain ⟨vs,rfl,hV0,hs0⟩:=h0
 obtain ⟨A,hA1,hA2⟩:=heads hV0.shape
 rw [show dv vs = dv (hv A) from by unfold dv;rw [hA2]]
 have hV:DicV w (hv A) D:=fun i hi=>by rw [← hA1 i hi];exact hV0 i hi
 clear hA1 hA2 hV0
 have HOWD:=hid (fun w' (hx:Ext w w')=>ownDic18_any (hv A) D w' (hV.ext hx))
 have HDS:=hid (cutD_s hs0)
 obtain ⟨G0,hG0,hN0⟩:=h1
 have HOWG:=hid (fun w' (hx:Ext w w')=>ownG_any v1 G0 w' (hG0.ext hx))
 have HF0:=hid (cutG_fits hN0)
 obtain ⟨vv,av,rv,hv1,rfl,_⟩:=hG0
 obtain ⟨H0',hG1,hN1⟩:=h2
 have HOWH:=hid (fun w' (hx:Ext w w')=>ownG_any v2 H0' w' (hG1.ext hx))
 have HF1:=hid (cutG_fits hN1)
 obtain ⟨vv2,av2,rv2,hv2,rfl,_⟩:=hG1
 clear hV hs0 hN0 hN1
 unfold dv golV at *
 have hbx:=boxes3 w (dcells (hv A)) 28 (golC vv av rv hv1 G0) 39 (golC vv2 av2 rv2 hv2 H0') 39
 have HBX:=hid hbx
 clear hbx
 go_enter Tryz.func8,Tryz.ntmps8
 go_upto_region 1 with fail
 generalize ((w.alloc (.cells (dcells (hv A)).toArray 28)).alloc (.cells (golC vv av rv hv1 G0).toArray 39)).alloc (.cells (golC vv2 av2 rv2 hv2 H0').toArray 39) = w1 at *
 obtain ⟨y0,hy0⟩:∃ x,w.heap.size = x:=⟨_,rfl⟩
 obtain ⟨y1,hy1⟩:∃ x,y0 + 1 = x:=⟨_,rfl⟩
 obtain ⟨y2,hy2⟩:∃ x,y1 + 1 = x:=⟨_,rfl⟩
 rw [hy0,hy1,hy2] at HBX
 simp only [hy0,hy1,hy2]
 have HN:=hid (show w.heap.size = y0 ∧ y0 + 1 = y1 ∧ y1 + 1 = y2 from ⟨hy0,hy1,hy2⟩)
 have HX:=hid HBX.out.1
 have H0:=hid HBX.out.2.1
 have H1:=hid HBX.out.2.2.1
 have H2:=hid HBX.out.2.2.2
 clear hy0 hy1 hy2 HBX
 go_wp2_with fail
 refine (wakesG_any w1).mono ?_
 rintro e w2 ⟨rfl,hx2⟩
 have HX2:=hid (HX.out.trans hx2)
 replace H0:=hid (H0.out.ext hx2)
 replace H1:=hid (H1.out.ext hx2)
 replace H2:=hid (H2.out.ext hx2)
 clear hx2 HX
 go_upto_region 3 with fail
 refine wp_region_inv [18,19,20,21,22,23,7,8,9] _ depR3 (ManyF 3 w2 (rV3 (.agg (dcells (hv A)).toArray) (.agg (golC vv av rv hv1 G0).toArray) (.agg (golC vv2 av2 rv2 hv2 H0').toArray)) (rO3 w2.heap.size (cutD D) (cutG G0) (cutG H0')) rT3 rZ3) hmo (by kernel_rfl) (by kernel_rfl) (puts_self _ _) (ManyF.start rfl (Ext.drewN w2 1)) ?_ ?_
 ·refine ⟨?_,?_,?_,?_,?_,?_,?_,?_,?_,?_,?_,?_,trivial⟩
  all_goals
   rintro S us wq hd hn hF K hK
   obtain ⟨u0,u1,u2,u3,u4,u5,u6,u7,u8,rfl⟩:=nine9 hF.len
   have HK:=hid hK
   have HF:=hid hF
   have HN:=hid hn
   have HD:=hid hd
   clear hK hF hn hd
   simp only [puts,Act.put,qA,qB,qC,List.set_nil]
  ·have hk:=HK.out _ _ (HF.out.load (i:=0) (by omega))
   simp only [puts,Act.put,qA,Nat.reduceMul,Nat.reduceAdd,qB,qC,List.set_nil] at hk
   rw [if_pos (show Region.wanted _ _ = true from rfl)]
   refine wp_load_mid _ _ rfl y0 0 rfl (dcells (hv A)) _ (H0.out.ext HF.out.ext).whole Tryz.underlying28 rfl (by kernel_rfl) ?_
   exact hk
  ·obtain rfl:=Option.some.inj (HF.out.a 0 (by omega) (HD.out 0 (by decide)))
   unfold rV3
   go_simp
   refine (HOWD.out wq (HX2.out.trans HF.out.ext)).mono ?_
   rintro e wy ⟨us',rfl,hou,hxu⟩
   obtain ⟨A5,hA,hAe⟩:=hou.heads
   have hk:=HK.out _ _ (HF.out.call (rO3_firm _ _ _ _) (i:=0) (by omega) HN.out (u:=dv (hv A5)) hxu ⟨A5,rfl,hA.base HF.out.ext.size⟩)
   rw [← hAe] at hk
   simp only [puts,Act.put,qA,Nat.reduceMul,Nat.reduceAdd,qB,qC,List.set_nil] at hk
   exact hk
  ·have hk:=HK.out _ _ (HF.out.load (i:=1) (by omega))
   simp only [puts,Act.put,qA,Nat.reduceMul,Nat.reduceAdd,qB,qC,List.set_nil] at hk
   rw [if_pos (show Region.wanted _ _ = true from rfl)]
   refine wp_load_mid _ _ rfl y1 0 rfl (golC vv av rv hv1 G0) _ (H1.out.ext HF.out.ext).whole Tryz.underlying39 rfl (by kernel_rfl) ?_
   exact hk
  ·obtain rfl:=Option.some.inj (HF.out.a 1 (by omega) (HD.out 2 (by decide)))
   unfold rV3
   go_simp
   refine (HOWG.out wq (HX2.out.trans HF.out.ext)).mono ?_
   rintro e wy ⟨u,rfl,hou,hxu⟩
   have hk:=HK.out _ _ (HF.out.call (rO3_firm _ _ _ _) (i:=1) (by omega) HN.out hxu (hou.base HF.out.ext.size))
   simp only [puts,Act.put,qA,Nat.reduceMul,Nat.reduceAdd,qB,qC,List.set_nil] at hk
   exact hk
  ·have hk:=HK.out _ _ (HF.out.load (i:=2) (by omega))
   simp only [puts,Act.put,qA,Nat.reduceMul,Nat.reduceAdd,qB,qC,List.set_nil] at hk
   rw [if_pos (show Region.wanted _ _ = true from rfl)]
   refine wp_load_mid _ _ rfl y2 0 rfl (golC vv2 av2 rv2 hv2 H0') _ (H2.out.ext HF.out.ext).whole Tryz.underlying39 rfl (by kernel_rfl) ?_
   exact hk
  ·obtain rfl:=Option.some.inj (HF.out.a 2 (by omega) (HD.out 4 (by decide)))
   unfold rV3
   go_simp
   refine (HOWH.out wq (HX2.out.trans HF.out.ext)).mono ?_
   rintro e wy ⟨u,rfl,hou,hxu⟩
   have hk:=HK.out _ _ (HF.out.call (rO3_firm _ _ _ _) (i:=2) (by omega) HN.out hxu (hou.base HF.out.ext.size))
   simp only [puts,Act.put,qA,Nat.reduceMul,Nat.reduceAdd,qB,qC,List.set_nil] at hk
   exact hk
  ·have hk:=HK.out _ _ (HF.out.new (rO3_firm _ _ _ _) (i:=0) (by omega) HN.out)
   simp only [puts,Act.put,qA,Nat.reduceMul,Nat.reduceAdd,qB,qC,List.set_nil] at hk
   go_simp
   exact hk
  ·have hk:=HK.out _ _ (HF.out.new (rO3_firm _ _ _ _) (i:=1) (by omega) HN.out)
   simp only [puts,Act.put,qA,Nat.reduceMul,Nat.reduceAdd,qB,qC,List.set_nil] at hk
   go_simp
   exact hk
  ·have hk:=HK.out _ _ (HF.out.new (rO3_firm _ _ _ _) (i:=2) (by omega) HN.out)
   simp only [puts,Act.put,qA,Nat.reduceMul,Nat.reduceAdd,qB,qC,List.set_nil] at hk
   go_simp
   exact hk
  ·obtain ⟨A5,e5,h5⟩:=HF.out.val (i:=0) (by omega) (HD.out 1 (by decide)) rfl
   obtain ⟨g,eg,hg⟩:=HF.out.old (i:=0) (by omega) (HD.out 6 (by decide)) HN.out rfl
   subst e5
   subst eg
   have hk:=HK.out _ _ (HF.out.store (rO3_firm _ _ _ _) (i:=0) (xs:=dcells (hv A5)) (by omega) (HD.out 1 (by decide)) (HD.out 6 (by decide)) HN.out rfl rfl)
   simp only [puts,Act.put,qA,Nat.reduceMul,Nat.reduceAdd,qB,qC,List.set_nil] at hk
   rw [if_pos (show Region.wanted _ _ = true from rfl)]
   refine wp_store_row _ _ _ rfl g (dcells (hv A5)).toArray rfl rfl _ _ hg (by kernel_rfl) rfl (all_oneCell_toArray (by simp [dcells,hv,Value.oneCell'])) ?_
   exact hk
  ·obtain ⟨g1,g5,g2,g6,g3,g7,g4,g8,e5⟩:=GolIn.shape (HF.out.val (i:=1) (by omega) (HD.out 3 (by decide)) rfl)
   obtain ⟨g,eg,hg⟩:=HF.out.old (i:=1) (by omega) (HD.out 7 (by decide)) HN.out rfl
   subst e5
   subst eg
   have hk:=HK.out _ _ (HF.out.store (rO3_firm _ _ _ _) (i:=1) (xs:=golC (.slice g1 (cutG G0).vars.length g5) (.slice g2 (cutG G0).atoms.length g6) (.slice g3 (cutG G0).ret.length g7) (.slice g4 (cutG G0).hint.length g8) (cutG G0)) (by omega) (HD.out 3 (by decide)) (HD.out 7 (by decide)) HN.out rfl rfl)
   simp only [puts,Act.put,qA,Nat.reduceMul,Nat.reduceAdd,qB,qC,List.set_nil] at hk
   rw [if_pos (show Region.wanted _ _ = true from rfl)]
   refine wp_store_row _ _ _ rfl g (golC (.slice g1 (cutG G0).vars.length g5) (.slice g2 (cutG G0).atoms.length g6) (.slice g3 (cutG G0).ret.length g7) (.slice g4 (cutG G0).hint.length g8) (cutG G0)).toArray rfl rfl _ _ hg (by kernel_rfl) rfl (all_oneCell_toArray (by simp [golC,Value.oneCell'])) ?_
   exact hk
  ·obtain ⟨h1,h5,h2,h6,h3,h7,h4,h8,e5⟩:=GolIn.shape (HF.out.val (i:=2) (by omega) (HD.out 5 (by decide)) rfl)
   obtain ⟨g,eg,hg⟩:=HF.out.old (i:=2) (by omega) (HD.out 8 (by decide)) HN.out rfl
   subst e5
   subst eg
   have hk:=HK.out _ _ (HF.out.store (rO3_firm _ _ _ _) (i:=2) (xs:=golC (.slice h1 (cutG H0').vars.length h5) (.slice h2 (cutG H0').atoms.length h6) (.slice h3 (cutG H0').ret.length h7) (.slice h4 (cutG H0').hint.length h8) (cutG H0')) (by omega) (HD.out 5 (by decide)) (HD.out 8 (by decide)) HN.out rfl rfl)
   simp only [puts,Act.put,qA,Nat.reduceMul,Nat.reduceAdd,qB,qC,List.set_nil] at hk
   rw [if_pos (show Region.wanted _ _ = true from rfl)]
   refine wp_store_row _ _ _ rfl g (golC (.slice h1 (cutG H0').vars.length h5) (.slice h2 (cutG H0').atoms.length h6) (.slice h3 (cutG H0').ret.length h7) (.slice h4 (cutG H0').hint.length h8) (cutG H0')).toArray rfl rfl _ _ hg (by kernel_rfl) rfl (all_oneCell_toArray (by simp [golC,Value.oneCell'])) ?_
   exact hk
 rintro S us wq hS hF
 obtain ⟨u0,u1,u2,u3,u4,u5,u6,u7,u8,rfl⟩:=nine9 hF.len
 have hSa:∀ k,k < 4 * 3 → S k = true:=fun k hk=>hS k (by simpa using hk)
 obtain ⟨⟨A5,e5,hdo⟩,y,cs,rfl,ecs,hy2,hry⟩:=hF.fin (i:=0) (by omega) hSa rfl rfl
 obtain ⟨hgo,g,cs2,rfl,ecs2,hg2,hrg⟩:=hF.fin (i:=1) (by omega) hSa rfl rfl
 obtain ⟨hho,h,cs3,rfl,ecs3,hh2,hrh⟩:=hF.fin (i:=2) (by omega) hSa rfl rfl
 obtain ⟨g1,g5,g2,g6,g3,g7,g4,g8,eg⟩:=GolIn.shape hgo
 obtain ⟨h1,h5,h2,h6,h3,h7,h4,h8,eh⟩:=GolIn.shape hho
 rw [e5] at ecs
 obtain rfl:dcells (hv A5) = cs:=by have h:=Value.agg.inj ecs;simpa using congrArg Array.toList h
 rw [eg] at ecs2
 obtain rfl:golC (.slice g1 (cutG G0).vars.length g5) (.slice g2 (cutG G0).atoms.length g6) (.slice g3 (cutG G0).ret.length g7) (.slice g4 (cutG G0).hint.length g8) (cutG G0) = cs2:=by have h:=Value.agg.inj ecs2;simpa using congrArg Array.toList h
 rw [eh] at ecs3
 obtain rfl:golC (.slice h1 (cutG H0').vars.length h5) (.slice h2 (cutG H0').atoms.length h6) (.slice h3 (cutG H0').ret.length h7) (.slice h4 (cutG H0').hint.length h8) (cutG H0') = cs3:=by have h:=Value.agg.inj ecs3;simpa using congrArg Array.toList h
 subst e5
 rw [eg] at hgo
 rw [eh] at hho
 subst eg eh
 have HDQ:=hid (show DicV wq (hv A5) (cutD D) from DicOwn.view hdo)
 have HGQ:=hid (GolIn.at_ (show GolIn w2.heap.size wq (.agg (golC (.slice g1 (cutG G0).vars.length g5) (.slice g2 (cutG G0).atoms.length g6) (.slice g3 (cutG G0).ret.length g7) (.slice g4 (cutG G0).hint.length g8) (cutG G0)).toArray) (cutG G0) from hgo))
 have HHQ:=hid (GolIn.at_ (show GolIn w2.heap.size wq (.agg (golC (.slice h1 (cutG H0').vars.length h5) (.slice h2 (cutG H0').atoms.length h6) (.slice h3 (cutG H0').ret.length h7) (.slice h4 (cutG H0').hint.length h8) (cutG H0')).toArray) (cutG H0') from hho))
 have HBY:=hid (show RowAt wq y 28 (dcells (hv A5)) from hry)
 have HBG:=hid (show RowAt wq g 39 (golC (.slice g1 (cutG G0).vars.length g5) (.slice g2 (cutG G0).atoms.length g6) (.slice g3 (cutG G0).ret.length g7) (.slice g4 (cutG G0).hint.length g8) (cutG G0)) from hrg)
 have HBH:=hid (show RowAt wq h 39 (golC (.slice h1 (cutG H0').vars.length h5) (.slice h2 (cutG H0').atoms.length h6) (.slice h3 (cutG H0').ret.length h7) (.slice h4 (cutG H0').hint.length h8) (cutG H0')) from hrh)
 have HXQ:=hid (HX2.out.trans hF.ext)
 have HI1:=hid (H1.out.ext hF.ext)
 clear hdo hgo hho hry hrg hrh hF hS hSa hy2 hg2 hh2 ecs ecs2 ecs3 HOWD HOWH H0 H1 H2 HX2
 simp only [puts,Act.put,qA,qB,qC,List.set_nil]
 generalize cutD D = E at *
 generalize cutG H0' = HH at *
 generalize cutG G0 = GG at *
 have HBN:=hid (backN A5 E GG (golC (.slice g1 GG.vars.length g5) (.slice g2 GG.atoms.length g6) (.slice g3 GG.ret.length g7) (.slice g4 GG.hint.length g8) GG) wq HDQ.out HDS.out HGQ.out HF0.out)
 go_upto_region 4 with fail
 apply wp_region_lit
 refine plain_load rfl _ _ rfl y rfl _ _ (HBY.out) Tryz.underlying28 rfl (by kernel_rfl) ?_
 go_simp
 refine plain_load rfl _ _ rfl g rfl _ _ (HBG.out) Tryz.underlying39 rfl (by kernel_rfl) ?_
 go_simp
 refine wpList_plain rfl fun K1 hK1=>?_
 go_simp
 refine HBN.out.mono ?_;rintro e w8 ⟨P,c,q1,q4,q2,q5,q3,q6,rfl,hbr,hpo,hx8⟩
 go_simp
 refine hK1 _ _ ?_
 clear hK1 K1
 iterate 4 (refine wpList_plain rfl fun Y y'=>?_;go_simp;refine y' _ _ ?_;clear y' Y)
 have hax:=Ext.alloc w8 (.cells #[.slice none 0 0,.slice none 0 0,.bool false,.bool false,.bool false,.int .i64 0,.int .i64 0,.slice none 0 0] 35)
 have har:RowAt (w8.alloc (.cells #[.slice none 0 0,.slice none 0 0,.bool false,.bool false,.bool false,.int .i64 0,.int .i64 0,.slice none 0 0] 35)) w8.heap.size 35 (#[.slice none 0 0,.slice none 0 0,.bool false,.bool false,.bool false,.int .i64 0,.int .i64 0,.slice none 0 0]).toList:=RowAt.new _ _ _
 refine plain_store rfl _ _ _ rfl w8.heap.size (patL (.slice q1 P.atoms.length q4) (.slice q2 P.ret.length q5) (.slice q3 P.hint.length q6) P) rfl rfl har (by kernel_rfl) rfl ((by simp [patL,Value.oneCell'])) ?_
 have hex:Ext w8 ((w8.alloc (.cells #[.slice none 0 0,.slice none 0 0,.bool false,.bool false,.bool false,.int .i64 0,.int .i64 0,.slice none 0 0] 35)).setRow w8.heap.size (patL (.slice q1 P.atoms.length q4) (.slice q2 P.ret.length q5) (.slice q3 P.hint.length q6) P).toArray):=below_setRow hax (Nat.le_refl _) _
 have HEw9:=hid hex
 have HRp:=hid (har.setRow (patL (.slice q1 P.atoms.length q4) (.slice q2 P.ret.length q5) (.slice q3 P.hint.length q6) P))
 clear hax har hex
 go_simp
 generalize (w8.alloc (.cells #[.slice none 0 0,.slice none 0 0,.bool false,.bool false,.bool false,.int .i64 0,.int .i64 0,.slice none 0 0] 35)).setRow w8.heap.size (patL (.slice q1 P.atoms.length q4) (.slice q2 P.ret.length q5) (.slice q3 P.hint.length q6) P).toArray = w9 at *
 obtain ⟨p,hsp⟩:∃ x,w8.heap.size = x:=⟨_,rfl⟩
 rw [hsp] at HRp
 simp only [hsp]
 have HSp:=hid hsp
 clear hsp
 (refine wpList_plain rfl fun Y y'=>?_;go_simp;refine y' _ _ ?_;clear y' Y)
 apply wpList_nil
 have HX9:=hid (hx8.trans HEw9.out)
 have HPP:=hid (PatAt.ext hpo.at_ HEw9.out)
 have HRP:=hid (show RowAt w9 p 35 (patL (.slice q1 P.atoms.length q4) (.slice q2 P.ret.length q5) (.slice q3 P.hint.length q6) P) from HRp.out)
 have HBR:=hid hbr
 have HPF:=hid (BackR.few hbr HF0.out)
 clear hbr hpo hx8 HEw9 HRp HSp HBN
 go_upto_region 5 with fail
 apply wp_region_lit
 (refine wpList_plain rfl fun Y y'=>?_;go_simp;refine y' _ _ ?_;clear y' Y)
 have hxa:=Ext.alloc w9 (.cells #[.slice none 0 0,.slice none 0 0,.bool false,.bool false,.bool false,.int .i64 0,.int .i64 0,.slice none 0 0] 35)
 have hra:RowAt (w9.alloc (.cells #[.slice none 0 0,.slice none 0 0,.bool false,.bool false,.bool false,.int .i64 0,.int .i64 0,.slice none 0 0] 35)) w9.heap.size 35 [.slice none 0 0,.slice none 0 0,.bool false,.bool false,.bool false,.int .i64 0,.int .i64 0,.slice none 0 0]:=RowAt.new _ _ _
 have HX10:=hid hxa
 have HM10:=hid hra
 clear hxa hra
 generalize w9.alloc (.cells #[.slice none 0 0,.slice none 0 0,.bool false,.bool false,.bool false,.int .i64 0,.int .i64 0,.slice none 0 0] 35) = w10 at *
 obtain ⟨m,hm⟩:∃ m,w9.heap.size = m:=⟨_,rfl⟩
 rw [hm] at HM10
 simp only [hm]
 have HML:=hid (Nat.le_of_eq hm)
 clear hm
 apply wpList_nil
 have hdr:=dright_any (hv A5) E w10 (HDQ.out.ext (HX9.out.trans HX10.out)) HDS.out
 unfold dv at hdr
 have HDR:=hid hdr
 clear hdr
 go_upto_region 7 with fail
 apply wp_region_lit
 refine plain_load rfl _ _ rfl y rfl _ _ (HBY.out.ext (HX9.out.trans HX10.out)) Tryz.underlying28 rfl (by kernel_rfl) ?_
 go_simp
 refine wpList_plain rfl fun K1 hK1=>?_
 go_simp
 refine HDR.out.mono ?_;rintro e w11 ⟨r,rfl,hr,hx11⟩
 go_simp
 refine hK1 _ _ ?_
 clear hK1 K1
 apply wpList_nil
 have HRR:=hid hr
 have HX11:=hid (HX10.out.trans hx11)
 have HM11:=hid (HM10.out.ext hx11)
 clear hr hx11 HX10 HM10 HDR
 go_upto_if 31 with fail
 go_cut [13,14] (fun s13 s14 wx=>s13 = .int .i64 c ∧ Hid (∃ ps,Ext w9 wx ∧ RowAt wx m 35 ps ∧ PatAt wx (.agg ps.toArray) P))
 case first =>
  cases r with
  | false =>
   obtain ⟨rfl,rfl⟩:=HBR.out.not_dict (fun h=>by have:=HRR.out.2 h;cases this)
   have HFN:=hid (show ∃ ps,Ext w9 w11 ∧ RowAt w11 m 35 ps ∧ PatAt w11 (.agg ps.toArray) noPat from ⟨[.slice none 0 0,.slice none 0 0,.bool false,.bool false,.bool false,.int .i64 0,.int .i64 0,.slice none 0 0],HX11.out,HM11.out,(noPat_own 0 _).at_⟩)
   go_wp2_with fail
   go_meet
   exact ⟨rfl,HFN⟩
  | true =>
   have HOK:=hid (HRR.out.1 rfl)
   have HBK:=hid (backRR_any A5 E GG (golC (.slice g1 GG.vars.length g5) (.slice g2 GG.atoms.length g6) (.slice g3 GG.ret.length g7) (.slice g4 GG.hint.length g8) GG) w11 (HDQ.out.ext (HX9.out.trans HX11.out)) HOK.out (HGQ.out.ext (HX9.out.trans HX11.out)) HF0.out)
   go_upto_region 9 with fail
   apply wp_region_lit
   refine plain_load rfl _ _ rfl y rfl _ _ (HBY.out.ext (HX9.out.trans HX11.out)) Tryz.underlying28 rfl (by kernel_rfl) ?_
   go_simp
   refine plain_load rfl _ _ rfl g rfl _ _ (HBG.out.ext (HX9.out.trans HX11.out)) Tryz.underlying39 rfl (by kernel_rfl) ?_
   go_simp
   refine wpList_plain rfl fun K1 hK1=>?_
   go_simp
   refine HBK.out.mono ?_;rintro e w12 ⟨z1,z4,z2,z5,z3,z6,P',b',rfl,hbt,hpo',hx12⟩
   go_simp
   refine hK1 _ _ ?_
   clear hK1 K1
   obtain ⟨rfl,hcb⟩:=HBR.out.same HOK.out hbt
   iterate 3 (refine wpList_plain rfl fun Y y'=>?_;go_simp;refine y' _ _ ?_;clear y' Y)
   have hm12:=HM11.out.ext hx12
   have HFN:=hid (show ∃ ps,Ext w9 (w12.setRow m (patL (.slice z1 P'.atoms.length z4) (.slice z2 P'.ret.length z5) (.slice z3 P'.hint.length z6) P').toArray) ∧ RowAt (w12.setRow m (patL (.slice z1 P'.atoms.length z4) (.slice z2 P'.ret.length z5) (.slice z3 P'.hint.length z6) P').toArray) m 35 ps ∧ PatAt (w12.setRow m (patL (.slice z1 P'.atoms.length z4) (.slice z2 P'.ret.length z5) (.slice z3 P'.hint.length z6) P').toArray) (.agg ps.toArray) P' from ⟨patL (.slice z1 P'.atoms.length z4) (.slice z2 P'.ret.length z5) (.slice z3 P'.hint.length z6) P',below_setRow (HX11.out.trans hx12) HML.out _,hm12.setRow _,(PatOwn.turn hpo' hm12 (by decide) (by decide) (setRow_grown w12 m _)).at_⟩)
   have HM12:=hid hm12
   clear hm12 hpo' hbt hx12 HX11 HM11 HBK
   refine plain_store rfl _ _ _ rfl m (patL (.slice z1 P'.atoms.length z4) (.slice z2 P'.ret.length z5) (.slice z3 P'.hint.length z6) P') rfl rfl (HM12.out) (by kernel_rfl) rfl ((by simp [patL,Value.oneCell'])) ?_
   go_simp
   generalize w12.setRow m (patL (.slice z1 P'.atoms.length z4) (.slice z2 P'.ret.length z5) (.slice z3 P'.hint.length z6) P').toArray = w13 at *
   (refine wpList_plain rfl fun Y y'=>?_;go_simp;refine y' _ _ ?_;clear y' Y)
   apply wpList_nil
   cases b' with
   | true =>
    have hc0:c = 0:=by rw [hcb];rfl
    clear hcb
    subst hc0
    go_wp2_with fail
    go_meet
    exact ⟨rfl,HFN⟩
   | false =>
    have hc0:c = 281:=by rw [hcb];rfl
    clear hcb
    subst hc0
    go_wp2_with fail
    go_meet
    exact ⟨rfl,HFN⟩
 case rest =>
  obtain ⟨rfl,hc9⟩:=hcut
  obtain ⟨ps,hxc,hrm,hpm⟩:=hc9.out
  have hpm0:=hpm
  obtain ⟨pv1,pv2,pv3,eps,_⟩:=hpm
  obtain rfl:ps = patL pv1 pv2 pv3 P:=by unfold patV at eps;simpa using eps
  have HXC:=hid (HX9.out.trans hxc)
  have HRM:=hid hrm
  have HPM:=hid hpm0
  have HPP1:=hid (HPP.out.ext hxc)
  have HRP1:=hid (HRP.out.ext hxc)
  clear hc9 hxc hrm hpm0 eps HX11 HM11 HML HPP HRP HX9 HRR
  go_upto_region 13 with fail
  refine wp_region_grox [] groB13 [0,1,2,3,4,5,7,6,8,9,10,11,12,13,14,15,16,17,18,20,21,19,22,23,24,25,26,27,28,29,30,31] hmo (by kernel_rfl) rfl (by kernel_rfl) (fun _ _ _ _ _ h=>h) ?_
  have hxd:Ext wc wc.drew:=Ext.drewN wc 1
  have HX14:=hid (HXC.out.trans hxd)
  have HRM14:=hid (HRM.out.ext hxd)
  have HPM14:=hid (HPM.out.ext hxd)
  have HPP14:=hid (HPP1.out.ext hxd)
  have HRP14:=hid (HRP1.out.ext hxd)
  clear hxd HXC HRM HPM HPP1 HRP1
  generalize wc.drew = w14 at *
  have n1:(c != c) = false:=by simp
  have HCK:=hid (checkN A5 E GG (golC (.slice g1 GG.vars.length g5) (.slice g2 GG.atoms.length g6) (.slice g3 GG.ret.length g7) (.slice g4 GG.hint.length g8) GG) w14 (HDQ.out.ext HX14.out) HDS.out (HGQ.out.ext HX14.out) HF0.out)
  repeat (first
   | (refine groX_pure rfl rfl ?_;intro K hK;go_simp;refine hK _ ?_;clear hK K)
   | (refine groX_read rfl rfl ?_;intro K S hS hK;go_simp;refine hK _ ?_;clear hK K hS S)
   | (refine groX_read rfl rfl ?_;intro K S hS hK;go_simp;refine ⟨hS _ ?_,hK _ ?_⟩;(clear hK K hS S;intro w' hx';have hce:=grows_some hx';go_simp);clear hK K hS S))
  refine groX_loadW rfl rfl (by first | rfl | decide | kernel_rfl) _ _ rfl y 0 rfl _ _ (HBY.out.ext HX14.out).whole (by simp) Tryz.underlying28 rfl (by kernel_rfl) ?_
  refine groX_loadW rfl rfl (by first | rfl | decide | kernel_rfl) _ _ rfl g 0 rfl _ _ (HBG.out.ext HX14.out).whole (by simp) Tryz.underlying39 rfl (by kernel_rfl) ?_
  repeat (first
   | (refine groX_pure rfl rfl ?_;intro K hK;go_simp;refine hK _ ?_;clear hK K)
   | (refine groX_read rfl rfl ?_;intro K S hS hK;go_simp;refine hK _ ?_;clear hK K hS S)
   | (refine groX_read rfl rfl ?_;intro K S hS hK;go_simp;refine ⟨hS _ ?_,hK _ ?_⟩;(clear hK K hS S;intro w' hx';have hce:=grows_some hx';go_simp);clear hK K hS S))
  refine groX_grow rfl rfl ?_
  intro K hK
  go_simp
  refine HCK.out.mono ?_;rintro e w15 ⟨P9,c9,rfl,hb9,hx15⟩
  go_simp
  refine hK _ _ ⟨Grows.ext hx15,?_⟩
  clear hK K
  obtain rfl:c = c9:=HBR.out.det hb9
  have HX15:=hid (HX14.out.trans hx15)
  have HPAB:=hid (same16_any _ _ P P w15 (HPP14.out.ext hx15) (HPM14.out.ext hx15) (by have:=HPF.out;omega) (by have:=HPF.out;omega))
  rw [(sameB_iff P P).2 rfl] at HPAB
  unfold patV at HPAB
  repeat (first
   | (refine groX_pure rfl rfl ?_;intro K hK;go_simp;refine hK _ ?_;clear hK K)
   | (refine groX_read rfl rfl ?_;intro K S hS hK;go_simp;refine hK _ ?_;clear hK K hS S)
   | (refine groX_read rfl rfl ?_;intro K S hS hK;go_simp;refine ⟨hS _ ?_,hK _ ?_⟩;(clear hK K hS S;intro w' hx';have hce:=grows_some hx';go_simp);clear hK K hS S))
  refine groX_loadW rfl rfl (by first | rfl | decide | kernel_rfl) _ _ rfl p 0 rfl _ _ (HRP14.out.ext hx15).whole (by simp) Tryz.underlying35 rfl (by kernel_rfl) ?_
  refine groX_loadW rfl rfl (by first | rfl | decide | kernel_rfl) _ _ rfl m 0 rfl _ _ (HRM14.out.ext hx15).whole (by simp) Tryz.underlying35 rfl (by kernel_rfl) ?_
  refine groX_grow rfl rfl ?_
  intro K hK
  go_simp
  refine HPAB.out.mono ?_;rintro e w16 ⟨rfl,hx16⟩
  go_simp
  refine hK _ _ ⟨Grows.ext hx16,?_⟩
  clear hK K
  have HX16:=hid (HX15.out.trans hx16)
  clear hx15 hx16 hb9 HX14 HX15 HPAB HCK HRM14 HPM14 HPP14 HRP14
  have hfg:GG.atoms.length ≤ 1000000000:=by have:=HF0.out.few.1;omega
  have hfh:HH.atoms.length ≤ 1000000000:=by have:=HF1.out.few.1;omega
  have hs1:=sameG_any _ _ GG HH w16 (HGQ.out.ext HX16.out) (HHQ.out.ext HX16.out) hfg hfh
  have hs2:=fun w' (hx:Ext w16 w')=>sameGR_any _ _ GG HH w' (HGQ.out.ext (HX16.out.trans hx)) (HHQ.out.ext (HX16.out.trans hx)) hfg hfh
  obtain ⟨db,hdb⟩:∃ b,decide (GG = HH) = b:=⟨_,rfl⟩
  rw [hdb] at hs1 hs2
  have HS1:=hid hs1
  have HS2:=hid hs2
  have HFG:=hid hfg
  clear hs1 hs2 hdb hfg hfh
  have n2:(db != db) = false:=by simp
  repeat (first
   | (refine groX_pure rfl rfl ?_;intro K hK;go_simp;refine hK _ ?_;clear hK K)
   | (refine groX_read rfl rfl ?_;intro K S hS hK;go_simp;refine hK _ ?_;clear hK K hS S)
   | (refine groX_read rfl rfl ?_;intro K S hS hK;go_simp;refine ⟨hS _ ?_,hK _ ?_⟩;(clear hK K hS S;intro w' hx';have hce:=grows_some hx';go_simp);clear hK K hS S))
  refine groX_loadW rfl rfl (by first | rfl | decide | kernel_rfl) _ _ rfl g 0 rfl _ _ (HBG.out.ext HX16.out).whole (by simp) Tryz.underlying39 rfl (by kernel_rfl) ?_
  refine groX_loadW rfl rfl (by first | rfl | decide | kernel_rfl) _ _ rfl h 0 rfl _ _ (HBH.out.ext HX16.out).whole (by simp) Tryz.underlying39 rfl (by kernel_rfl) ?_
  refine groX_loadW rfl rfl (by first | rfl | decide | kernel_rfl) _ _ rfl g 0 rfl _ _ (HBG.out.ext HX16.out).whole (by simp) Tryz.underlying39 rfl (by kernel_rfl) ?_
  refine groX_loadW rfl rfl (by first | rfl | decide | kernel_rfl) _ _ rfl h 0 rfl _ _ (HBH.out.ext HX16.out).whole (by simp) Tryz.underlying39 rfl (by kernel_rfl) ?_
  refine groX_grow rfl rfl ?_
  intro K hK
  go_simp
  refine HS1.out.mono ?_;rintro e w17 ⟨rfl,hx17⟩
  go_simp
  refine hK _ _ ⟨Grows.ext hx17,?_⟩
  clear hK K
  refine groX_grow rfl rfl ?_
  intro K hK
  go_simp
  refine (HS2.out w17 hx17).mono ?_;rintro e w18 ⟨rfl,hx18⟩
  go_simp
  refine hK _ _ ⟨Grows.ext hx18,?_⟩
  clear hK K
  have HX18:=hid ((HX16.out.trans hx17).trans hx18)
  clear hx17 hx18 HX16 HS1 HS2
  repeat (first
   | (refine groX_pure rfl rfl ?_;intro K hK;go_simp;refine hK _ ?_;clear hK K)
   | (refine groX_read rfl rfl ?_;intro K S hS hK;go_simp;refine hK _ ?_;clear hK K hS S)
   | (refine groX_read rfl rfl ?_;intro K S hS hK;go_simp;refine ⟨hS _ ?_,hK _ ?_⟩;(clear hK K hS S;intro w' hx';have hce:=grows_some hx';go_simp);clear hK K hS S))
  refine groX_loadW rfl rfl (by first | rfl | decide | kernel_rfl) _ _ rfl g 0 rfl _ _ (HBG.out.ext HX18.out).whole (by simp) Tryz.underlying39 rfl (by kernel_rfl) ?_
  refine groX_loadW rfl rfl (by first | rfl | decide | kernel_rfl) _ _ rfl y1 0 rfl _ _ (HI1.out.ext HX18.out).whole (by simp) Tryz.underlying39 rfl (by kernel_rfl) ?_
  refine groX_grow rfl rfl ?_
  intro K hK
  go_simp
  refine (HOWG.out w18 (HXQ.out.trans HX18.out)).mono ?_;rintro e w19 ⟨u9,rfl,hu9,hx19⟩
  go_simp
  refine hK _ _ ⟨Grows.ext hx19,?_⟩
  clear hK K
  have hs3:=sameG_any _ u9 GG GG w19 (HGQ.out.ext (HX18.out.trans hx19)) hu9.at_ HFG.out HFG.out
  rw [decide_eq_true rfl] at hs3
  have HS3:=hid hs3
  clear hs3 hu9
  refine groX_grow rfl rfl ?_
  intro K hK
  go_simp
  refine HS3.out.mono ?_;rintro e w20 ⟨rfl,hx20⟩
  go_simp
  refine hK _ _ ⟨Grows.ext hx20,?_⟩
  clear hK K
  have HX20:=hid ((HX18.out.trans hx19).trans hx20)
  clear hx19 hx20 HX18 HS3
  repeat (first
   | (refine groX_pure rfl rfl ?_;intro K hK;go_simp;refine hK _ ?_;clear hK K)
   | (refine groX_read rfl rfl ?_;intro K S hS hK;go_simp;refine hK _ ?_;clear hK K hS S)
   | (refine groX_read rfl rfl ?_;intro K S hS hK;go_simp;refine ⟨hS _ ?_,hK _ ?_⟩;(clear hK K hS S;intro w' hx';have hce:=grows_some hx';go_simp);clear hK K hS S))
  refine groX_nil ?_
  clear n1 n2
  have HED:=hid (edges_any GG (.agg (golC (.slice g1 GG.vars.length g5) (.slice g2 GG.atoms.length g6) (.slice g3 GG.ret.length g7) (.slice g4 GG.hint.length g8) GG).toArray) w20 (HGQ.out.ext HX20.out) HF0.out.few.1)
  go_upto_region 15 with fail
  apply wp_region_lit
  refine plain_load rfl _ _ rfl g rfl _ _ (HBG.out.ext HX20.out) Tryz.underlying39 rfl (by kernel_rfl) ?_
  go_simp
  refine wpList_plain rfl fun K1 hK1=>?_
  go_simp
  refine HED.out.mono ?_;rintro e w21 ⟨ev,xs,rfl,hxs,hir,hx21⟩
  go_simp
  refine hK1 _ _ ?_
  clear hK1 K1
  (refine wpList_plain rfl fun Y y'=>?_;go_simp;refine y' _ _ ?_;clear y' Y)
  apply wpList_nil
  have HX21:=hid (HX20.out.trans hx21)
  have HIR:=hid (IV.of_own hir)
  have HXS:=hid hxs
  clear hxs hir hx21 HX20 HED
  go_upto_region 16 with fail
  refine wp_region_grox [] groB16 [0,1,2,3,4,5,6,7,8,9,10] hmo (by kernel_rfl) rfl (by kernel_rfl) (fun _ _ _ _ _ h=>h) ?_
  have hxd:Ext w21 w21.drew:=Ext.drewN w21 1
  have HX22:=hid (HX21.out.trans hxd)
  have HIR2:=hid (HIR.out.ext hxd)
  clear hxd HX21 HIR
  generalize w21.drew = w22 at *
  have HER:=hid (edgesR_any GG (golC (.slice g1 GG.vars.length g5) (.slice g2 GG.atoms.length g6) (.slice g3 GG.ret.length g7) (.slice g4 GG.hint.length g8) GG) w22 (HGQ.out.ext HX22.out) HF0.out.few.1)
  repeat (first
   | (refine groX_pure rfl rfl ?_;intro K hK;go_simp;refine hK _ ?_;clear hK K)
   | (refine groX_read rfl rfl ?_;intro K S hS hK;go_simp;refine hK _ ?_;clear hK K hS S)
   | (refine groX_read rfl rfl ?_;intro K S hS hK;go_simp;refine ⟨hS _ ?_,hK _ ?_⟩;(clear hK K hS S;intro w' hx';have hce:=grows_some hx';go_simp);clear hK K hS S))
  refine groX_loadW rfl rfl (by first | rfl | decide | kernel_rfl) _ _ rfl g 0 rfl _ _ (HBG.out.ext HX22.out).whole (by simp) Tryz.underlying39 rfl (by kernel_rfl) ?_
  refine groX_grow rfl rfl ?_
  intro K hK
  go_simp
  refine HER.out.mono ?_;rintro e w23 ⟨ev2,ys,rfl,hys,hir2,hx23⟩
  go_simp
  refine hK _ _ ⟨Grows.ext hx23,?_⟩
  clear hK K
  have hse:xs.map Prod.snd = ys.map Prod.snd:=by rw [HXS.out,hys]
  have hlx:xs.length ≤ 1000000:=by
   have h9:=congrArg List.length HXS.out
   rw [List.length_map,List.length_map] at h9
   have:=HF0.out.few.1
   omega
  have heq:=eqIRows_any ev ev2 xs ys w23 (HIR2.out.ext hx23) (IV.of_own hir2) hlx
  rw [decide_eq_true hse] at heq
  have HEQ:=hid heq
  clear heq hse hlx hys hir2
  refine groX_grow rfl rfl ?_
  intro K hK
  go_simp
  refine HEQ.out.mono ?_;rintro e w24 ⟨rfl,hx24⟩
  go_simp
  refine hK _ _ ⟨Grows.ext hx24,?_⟩
  clear hK K
  have HX24:=hid ((HX22.out.trans hx23).trans hx24)
  clear hx23 hx24 HX22 HIR2 HER HEQ
  repeat (first
   | (refine groX_pure rfl rfl ?_;intro K hK;go_simp;refine hK _ ?_;clear hK K)
   | (refine groX_read rfl rfl ?_;intro K S hS hK;go_simp;refine hK _ ?_;clear hK K hS S)
   | (refine groX_read rfl rfl ?_;intro K S hS hK;go_simp;refine ⟨hS _ ?_,hK _ ?_⟩;(clear hK K hS S;intro w' hx';have hce:=grows_some hx';go_simp);clear hK K hS S))
  refine groX_loadW rfl rfl (by first | rfl | decide | kernel_rfl) _ _ rfl g 0 rfl _ _ (HBG.out.ext HX24.out).whole (by simp) Tryz.underlying39 rfl (by kernel_rfl) ?_
  refine groX_loadW rfl rfl (by first | rfl | decide | kernel_rfl) _ _ rfl y1 0 rfl _ _ (HI1.out.ext HX24.out).whole (by simp) Tryz.underlying39 rfl (by kernel_rfl) ?_
  refine groX_grow rfl rfl ?_
  intro K hK
  go_simp
  refine (HOWG.out w24 (HXQ.out.trans HX24.out)).mono ?_;rintro e w25 ⟨u8,rfl,hu8,hx25⟩
  go_simp
  refine hK _ _ ⟨Grows.ext hx25,?_⟩
  clear hK K
  have hs4:=sameGR_any _ u8 GG GG w25 (HGQ.out.ext (HX24.out.trans hx25)) hu8.at_ HFG.out HFG.out
  rw [decide_eq_true rfl] at hs4
  have HS4:=hid hs4
  clear hs4 hu8
  refine groX_grow rfl rfl ?_
  intro K hK
  go_simp
  refine HS4.out.mono ?_;rintro e w26 ⟨rfl,hx26⟩
  go_simp
  refine hK _ _ ⟨Grows.ext hx26,?_⟩
  clear hK K
  have HX26:=hid ((HX24.out.trans hx25).trans hx26)
  clear hx25 hx26 HX24 HS4
  repeat (first
   | (refine groX_pure rfl rfl ?_;intro K hK;go_simp;refine hK _ ?_;clear hK K)
   | (refine groX_read rfl rfl ?_;intro K S hS hK;go_simp;refine hK _ ?_;clear hK K hS S)
   | (refine groX_read rfl rfl ?_;intro K S hS hK;go_simp;refine ⟨hS _ ?_,hK _ ?_⟩;(clear hK K hS S;intro w' hx';have hce:=grows_some hx';go_simp);clear hK K hS S))
  refine groX_nil ?_
  go_wp2_with fail
  go_ret
  exact ⟨rfl,HXQ.out.trans HX26.out⟩
end

end Go.Proofs.YtkmbnghghbfkdaaGreat
