/- The document: the goal of a pattern. -/
import Derived.Test.YtkmbnghghbfkdaaGreatGp42
import Derived.Test.YtkmbnghghbfkdaaGreatGp15
set_option linter.unusedSimpArgs false
set_option linter.unusedVariables false
set_option maxHeartbeats 2000000
set_option maxRecDepth 100000
namespace Go.Proofs.YtkmbnghghbfkdaaGreat
open Go.Lib (hid)

section
open Go.RowKit Go.Shelf Go.Sort
attribute [local go_sem] Oper.semAt_some wide_fn wide_depth
theorem inv_built2 {P:Program} {Q:Exit → Act → World → Prop} {K:Act → World → Prop} {o:Oper} {a:Act} {w:World} (t:TypeId) (parts:Array (Nat × Operand)) (ho:o.op = .build t parts) (cs:Array Value) (hf:P.built t (parts.map fun (i,x)=>(i,a.eval x)).toList = some cs)
 (h:K (a.put o.dst (.agg cs)) w):o.wp P a w K Q:=wp_build t parts ho (by rw [hf];rfl) (by rw [hf];exact h)
def groO13:Nat → Gro
 | 0=>.read
 | 2=>.read
 | 4=>.grow
 | _=>.pure
theorem row_cell {w:World} {g:Nat} {t:TypeId} {xs:List Value} (h:RowAt w g t xs) (i:Nat):w.cell? ⟨g,i,none⟩ = xs[i]?:=by
 simp [World.cell?,show w.heap[g]? = _ from h]
theorem Strs.turnY {w:World} {v:Value} {V:List ByteArray} {g:Nat} {t:TypeId} {ys:List Value} (h:Strs w v V) (hr:RowAt w g t ys) (hno:∀ x ∈ ys,∀ s,x ≠ .string s) (cs:Array Value):Strs (w.setRow g cs) v V:=by
 obtain ⟨a,c,h0,h1,h2,h3⟩:=h
 refine ⟨a,c,h0,h1,h2,fun hl=>?_⟩
 obtain ⟨b,o,ha,hc⟩:=h3 hl
 have hb:b ≠ g:=by
  rintro rfl
  have h4:=hc 0 ((V.map Value.string)[0]) (List.getElem?_eq_getElem hl)
  rw [row_cell hr] at h4
  exact hno _ (List.mem_of_getElem? h4) _ (List.getElem_map ..)
 refine ⟨b,o,ha,fun j x hx=>?_⟩
 rw [← hc j x hx]
 simp [World.cell?,setRow_other w g b cs hb]
def OfT (D:Dic) (P:Pat) (G:Gol) (n:Int) (b:Bool):Prop:=(b = true ∧ goalF D P = some G ∧ n = P.atoms.length) ∨ (b = false ∧ goalF D P = none ∧ G = zGol ∧ n = ((bndsF D (varsS P.atoms) P.atoms).1.length:Int) + 1)
def GolO (B:Nat) (W:World) (gs:List Value) (G:Gol):Prop:=∃ vv av rv hv,gs = golC vv av rv hv G ∧ Strs W vv G.vars ∧ W.ownsRow B 75 6 av G.atoms.length (G.atoms.flatMap bndCells) ∧ W.ownsRow B 3 1 rv G.ret.length (G.ret.map (Value.int .i64)) ∧ W.ownsRow B 3 1 hv G.hint.length (G.hint.map (Value.int .i64))
theorem GolO.at_ {B:Nat} {W:World} {gs:List Value} {G:Gol} (h:GolO B W gs G):GolAt W (.agg gs.toArray) G:=by
 obtain ⟨vv,av,rv,hv,rfl,h1,h2,h3,h4⟩:=h
 exact ⟨vv,av,rv,hv,rfl,h1,Sl.of_own h2,by have:=Sl.of_own h3;exact this,by have:=Sl.of_own h4;exact this⟩
theorem GolO.shape {B:Nat} {W:World} {gs:List Value} {G:Gol} (h:GolO B W gs G):∃ a1 c1 a2 c2 a3 c3 a4 c4,gs = golC (.slice a1 G.vars.length c1) (.slice a2 G.atoms.length c2) (.slice a3 G.ret.length c3) (.slice a4 G.hint.length c4) G:=by
 obtain ⟨vv,av,rv,hv,rfl,h1,h2,h3,h4⟩:=h
 obtain ⟨a1,c1,rfl,_,_⟩:=Sl.shape h1
 obtain ⟨a2,c2,rfl⟩:=own_vw h2
 obtain ⟨a3,c3,rfl⟩:=own_vw h3
 obtain ⟨a4,c4,rfl⟩:=own_vw h4
 exact ⟨_,_,_,_,_,_,_,_,rfl⟩
theorem zGol_o (B:Nat) (W:World):GolO B W [.slice none 0 0,.slice none 0 0,.slice none 0 0,.bool false,.bool false,.bool false,.int .i64 0,.int .i64 0,.slice none 0 0] zGol:=⟨.slice none 0 0,.slice none 0 0,.slice none 0 0,.slice none 0 0,rfl,Sl.of_own (World.ownsRow_nil _ 0 9 1),World.ownsRow_nil _ _ _ _,World.ownsRow_nil _ _ _ _,World.ownsRow_nil _ _ _ _⟩
set_option maxHeartbeats 4000000 in
theorem ofR_any (A:Heads) (D:Dic) (P:Pat) (pa ra ha:Option Addr) (pc rc hc:Nat) (w:World) (hV:DicV w (hv A) D) (hP:PatAt w (patV (.slice pa P.atoms.length pc) (.slice ra P.ret.length rc) (.slice ha P.hint.length hc) P) P) (hok:P.okB = true) :
 Calls Tryz.prog 15 #[.agg (dcells (hv A)).toArray,.agg (patL (.slice pa P.atoms.length pc) (.slice ra P.ret.length rc) (.slice ha P.hint.length hc) P).toArray] w fun e w'=>∃ (gs:List Value) (G:Gol) (n:Int) (b:Bool),e = .returned (.tuple #[.agg gs.toArray,.int .i64 n,.bool b]) ∧ OfT D P G n b ∧ GolO w.heap.size w' gs G ∧ Ext w w':=by
 have hmo:Tryz.prog.follows .mixedOrders = true:=by kernel_rfl
 obtain ⟨hA,hR,hH⟩:=hP.parts
 obtain ⟨⟨k1,k2⟩,k3,k4,k5,_,k6⟩:=okB_parts hok
 have hrl:=chosenB_len k4
 have hhl:=chosenB_len k5
 have HKD:=hid (fun a (ha:a ∈ P.atoms)=>(atomB_kind (k6 a ha)).1)
 have HVS:=hid (fun w' (hx:Ext w w')=>varsS_any _ P.atoms w' (hA.ext hx) (by omega))
 obtain ⟨V,hVe⟩:∃ V,varsS P.atoms = V:=⟨_,rfl⟩
 rw [hVe] at HVS k3 hrl hhl
 have HVE:=hid hVe
 have HVD:=hid hV
 have HA:=hid hA
 have HR:=hid hR
 have HH:=hid hH
 have HOK:=hid hok
 clear hVe hV hA hR hH hok k4 k5 k6 hP
 have hbx:=boxes3 w (dcells (hv A)) 28 (patL (.slice pa P.atoms.length pc) (.slice ra P.ret.length rc) (.slice ha P.hint.length hc) P) 35 ([.slice none 0 0,.slice none 0 0,.slice none 0 0,.bool false,.bool false,.bool false,.int .i64 0,.int .i64 0,.slice none 0 0]) 39
 have HBX:=hid hbx
 clear hbx
 go_enter Tryz.func15,Tryz.ntmps15
 go_upto_region 1 with fail
 generalize ((w.alloc (.cells (dcells (hv A)).toArray 28)).alloc (.cells (patL (.slice pa P.atoms.length pc) (.slice ra P.ret.length rc) (.slice ha P.hint.length hc) P).toArray 35)).alloc (.cells ([.slice none 0 0,.slice none 0 0,.slice none 0 0,.bool false,.bool false,.bool false,.int .i64 0,.int .i64 0,.slice none 0 0]).toArray 39) = w1 at *
 obtain ⟨y0,hy0⟩:∃ x,w.heap.size = x:=⟨_,rfl⟩
 obtain ⟨y1,hy1⟩:∃ x,y0 + 1 = x:=⟨_,rfl⟩
 obtain ⟨y2,hy2⟩:∃ x,y1 + 1 = x:=⟨_,rfl⟩
 rw [hy0,hy1,hy2] at HBX
 simp only [hy0,hy1,hy2]
 have HN:=hid (show w.heap.size = y0 ∧ y0 + 1 = y1 ∧ y1 + 1 = y2 from ⟨hy0,hy1,hy2⟩)
 have HX:=hid HBX.out.1
 have H0:=hid HBX.out.2.1
 have H1:=hid HBX.out.2.2.1
 have H2:=hid HBX.out.2.2.2
 clear hy0 hy1 hy2 HBX
 have f0:=H1.out.cell (i:=0) rfl
 apply wp_region_lit
 iterate 2 (refine wpList_plain rfl fun Y y'=>?_;go_simp;refine y' _ _ ?_;clear y' Y)
 refine wpList_plain rfl fun K1 hK1=>?_
 go_simp
 refine (HVS.out w1 HX.out).mono ?_;rintro e w2 ⟨u,rfl,hu,hx2⟩
 go_simp
 refine hK1 _ _ ?_
 clear hK1 K1
 obtain ⟨va,vc,rfl,_,_⟩:=Sl.shape hu
 have HVV:=hid (show Strs w2 (.slice va V.length vc) V from hu)
 have HX2:=hid (HX.out.trans hx2)
 have HD2:=hid (H0.out.ext hx2)
 have HP2:=hid (H1.out.ext hx2)
 have HZ2:=hid (H2.out.ext hx2)
 clear hu hx2 HX H0 H1 H2 HVS f0
 (refine wpList_plain rfl fun Y y'=>?_;go_simp;refine y' _ _ ?_;clear y' Y)
 apply wpList_nil
 have HPR:=hid (fun w' (hx:Ext w2 w')=>placesR_any (.slice ra P.ret.length rc) (.slice va V.length vc) P.ret V w' (Strs.ext HR.out (HX2.out.trans hx)) (Strs.ext HVV.out hx) (by omega))
 have HPH:=hid (fun w' (hx:Ext w2 w')=>placesR_any (.slice ha P.hint.length hc) (.slice va V.length vc) P.hint V w' (Strs.ext HH.out (HX2.out.trans hx)) (Strs.ext HVV.out hx) (by omega))
 have HPV:=hid (fun w' (hx:Ext w2 w')=>placesR_any (.slice va V.length vc) (.slice va V.length vc) V V w' (Strs.ext HVV.out hx) (Strs.ext HVV.out hx) (by omega))
 go_upto_region 2 with fail
 refine wp_region_inv [16,17,18,19,20,21,22,23,24,25,26,27,28,29,30,31,32,33,34,35,8] _ (fun i=>([[],[],[1],[],[2,3],[],[5],[],[6,7],[],[9],[],[11],[],[13],[],[15],[],[17],[0,4,8,10,12,14,16,18],[],[4,8,19,20]]:List (List Nat)).getD i []) (fun S us W=>∃ z:Nat,∃ s1:Value,∃ s2:Value,∃ bv:Value,PlS [some (.slice va V.length vc),some (.pointer (some ⟨y1,1,none⟩)),some (.slice ra P.ret.length rc),some (.slice va V.length vc),some (s1),some (.pointer (some ⟨y1,7,none⟩)),some (.slice ha P.hint.length hc),some (.slice va V.length vc),some (s2),some (.pointer (some ⟨y1,2,none⟩)),some (.bool P.count),some (.pointer (some ⟨y1,3,none⟩)),some (.bool P.distinct),some (.pointer (some ⟨y1,4,none⟩)),some (.bool P.limited),some (.pointer (some ⟨y1,5,none⟩)),some (.int .i64 P.limit),some (.pointer (some ⟨y1,6,none⟩)),some (.int .i64 P.offset),some (bv),some (.pointer (some ⟨z,0,none⟩))] S us ∧ (fun S W=>Ext w2 W ∧ (S 4 = true → W.ownsRow w2.heap.size 3 1 s1 P.ret.length ((P.ret.map (findF V)).map (Value.int .i64))) ∧ (S 8 = true → W.ownsRow w2.heap.size 3 1 s2 P.hint.length ((P.hint.map (findF V)).map (Value.int .i64))) ∧ (S 20 = true → w2.heap.size ≤ z ∧ RowAt W z 39 (if S 21 = true then golC (.slice va V.length vc) (.slice none 0 0) s1 s2 (golOf P []) else [.slice none 0 0,.slice none 0 0,.slice none 0 0,.bool false,.bool false,.bool false,.int .i64 0,.int .i64 0,.slice none 0 0])) ∧ (S 21 = true → S 20 = true ∧ S 4 = true ∧ S 8 = true) ∧ (S 19 = true → bv = .agg (golC (.slice va V.length vc) (.slice none 0 0) s1 s2 (golOf P [])).toArray ∧ S 4 = true ∧ S 8 = true)) S W) hmo (by kernel_rfl) (by kernel_rfl) (puts_self _ _) ⟨0,undef,undef,undef,PlS.start rfl,⟨Ext.drewN _ 1,nofun,nofun,nofun,nofun,nofun⟩⟩ ?_ ?_
 ·refine ⟨?_,?_,?_,?_,?_,?_,?_,?_,?_,?_,?_,?_,?_,?_,?_,?_,?_,?_,?_,?_,?_,?_,trivial⟩
  all_goals
   rintro S us wq hd hn ⟨z,s1,s2,bv,hF,hI⟩ K hK
   obtain ⟨u0,u1,u2,u3,u4,u5,u6,u7,u8,u9,u10,u11,u12,u13,u14,u15,u16,u17,u18,u19,u20,rfl⟩:=len21 hF.len rfl
   have HK:=hid (fun us' w'' z' s1' s2' bv' h hi=>hK us' w'' ⟨z',s1',s2',bv',h,hi⟩)
   have HF:=hid hF
   have HN:=hid hn
   have HD:=hid hd
   clear hK hF hn hd
   simp only [puts,Act.put,qA,qB,qC,List.set_nil]
  ·have hk:=HK.out _ wq z s1 s2 bv (HF.out.put (i:=0) (v:=.slice va V.length vc) rfl) hI
   simp only [puts,Act.put,qA,qB,qC,List.set_nil] at hk
   go_simp
   exact hk
  ·have hk:=HK.out _ wq z s1 s2 bv (HF.out.put (i:=1) (v:=.pointer (some ⟨y1,1,none⟩)) rfl) hI
   simp only [puts,Act.put,qA,qB,qC,List.set_nil] at hk
   go_simp
   exact hk
  ·obtain rfl:=HF.out.got (HD.out 1 (by decide)) (i:=1) rfl rfl
   have c:=(HP2.out.ext hI.1).cell (i:=1) rfl
   have hk:=HK.out _ wq z s1 s2 bv (HF.out.put (i:=2) (v:=.slice ra P.ret.length rc) rfl) hI
   simp only [puts,Act.put,qA,qB,qC,List.set_nil] at hk
   go_simp
   exact hk
  ·have hk:=HK.out _ wq z s1 s2 bv (HF.out.put (i:=3) (v:=.slice va V.length vc) rfl) hI
   simp only [puts,Act.put,qA,qB,qC,List.set_nil] at hk
   go_simp
   exact hk
  ·obtain rfl:=HF.out.got (HD.out 2 (by decide)) (i:=2) rfl rfl
   obtain rfl:=HF.out.got (HD.out 3 (by decide)) (i:=3) rfl rfl
   have hn:=HN.out
   have hz:S 21 = false:=by cases h:S 21;rfl;exact absurd (hI.2.2.2.2.1 h).2.1 (by rw [hn];decide)
   go_simp
   refine (HPR.out wq hI.1).mono ?_
   rintro e w9 ⟨ca,cc,rfl,ho,hx⟩
   have hk:=HK.out _ w9 z (.slice ca P.ret.length cc) s2 bv (HF.out.new (i:=4) (.slice ca P.ret.length cc) HN.out (by show 4 < 21;decide)) ⟨hI.1.trans hx,fun _=>own_base ho hI.1.size,fun h=>own_ext (hI.2.2.1 h) hx,fun h=>⟨(hI.2.2.2.1 h).1,by have hr:=(hI.2.2.2.1 h).2.ext hx;rw [hz] at hr;rw [show updB S 4 21 = S 21 from rfl,hz];exact hr⟩,fun h=>⟨(hI.2.2.2.2.1 h).1,rfl,(hI.2.2.2.2.1 h).2.2⟩,fun h=>absurd (hI.2.2.2.2.2 h).2.1 (by rw [hn];decide)⟩
   simp only [puts,Act.put,qA,qB,qC,List.set_nil] at hk
   go_simp
   exact hk
  ·have hk:=HK.out _ wq z s1 s2 bv (HF.out.put (i:=5) (v:=.pointer (some ⟨y1,7,none⟩)) rfl) hI
   simp only [puts,Act.put,qA,qB,qC,List.set_nil] at hk
   go_simp
   exact hk
  ·obtain rfl:=HF.out.got (HD.out 5 (by decide)) (i:=5) rfl rfl
   have c:=(HP2.out.ext hI.1).cell (i:=7) rfl
   have hk:=HK.out _ wq z s1 s2 bv (HF.out.put (i:=6) (v:=.slice ha P.hint.length hc) rfl) hI
   simp only [puts,Act.put,qA,qB,qC,List.set_nil] at hk
   go_simp
   exact hk
  ·have hk:=HK.out _ wq z s1 s2 bv (HF.out.put (i:=7) (v:=.slice va V.length vc) rfl) hI
   simp only [puts,Act.put,qA,qB,qC,List.set_nil] at hk
   go_simp
   exact hk
  ·obtain rfl:=HF.out.got (HD.out 6 (by decide)) (i:=6) rfl rfl
   obtain rfl:=HF.out.got (HD.out 7 (by decide)) (i:=7) rfl rfl
   have hn:=HN.out
   have hz:S 21 = false:=by cases h:S 21;rfl;exact absurd (hI.2.2.2.2.1 h).2.2 (by rw [hn];decide)
   go_simp
   refine (HPH.out wq hI.1).mono ?_
   rintro e w9 ⟨ca,cc,rfl,ho,hx⟩
   have hk:=HK.out _ w9 z s1 (.slice ca P.hint.length cc) bv (HF.out.new (i:=8) (.slice ca P.hint.length cc) HN.out (by show 8 < 21;decide)) ⟨hI.1.trans hx,fun h=>own_ext (hI.2.1 h) hx,fun _=>own_base ho hI.1.size,fun h=>⟨(hI.2.2.2.1 h).1,by have hr:=(hI.2.2.2.1 h).2.ext hx;rw [hz] at hr;rw [show updB S 8 21 = S 21 from rfl,hz];exact hr⟩,fun h=>⟨(hI.2.2.2.2.1 h).1,(hI.2.2.2.2.1 h).2.1,rfl⟩,fun h=>absurd (hI.2.2.2.2.2 h).2.2 (by rw [hn];decide)⟩
   simp only [puts,Act.put,qA,qB,qC,List.set_nil] at hk
   go_simp
   exact hk
  ·have hk:=HK.out _ wq z s1 s2 bv (HF.out.put (i:=9) (v:=.pointer (some ⟨y1,2,none⟩)) rfl) hI
   simp only [puts,Act.put,qA,qB,qC,List.set_nil] at hk
   go_simp
   exact hk
  ·obtain rfl:=HF.out.got (HD.out 9 (by decide)) (i:=9) rfl rfl
   have c:=(HP2.out.ext hI.1).cell (i:=2) rfl
   have hk:=HK.out _ wq z s1 s2 bv (HF.out.put (i:=10) (v:=.bool P.count) rfl) hI
   simp only [puts,Act.put,qA,qB,qC,List.set_nil] at hk
   go_simp
   exact hk
  ·have hk:=HK.out _ wq z s1 s2 bv (HF.out.put (i:=11) (v:=.pointer (some ⟨y1,3,none⟩)) rfl) hI
   simp only [puts,Act.put,qA,qB,qC,List.set_nil] at hk
   go_simp
   exact hk
  ·obtain rfl:=HF.out.got (HD.out 11 (by decide)) (i:=11) rfl rfl
   have c:=(HP2.out.ext hI.1).cell (i:=3) rfl
   have hk:=HK.out _ wq z s1 s2 bv (HF.out.put (i:=12) (v:=.bool P.distinct) rfl) hI
   simp only [puts,Act.put,qA,qB,qC,List.set_nil] at hk
   go_simp
   exact hk
  ·have hk:=HK.out _ wq z s1 s2 bv (HF.out.put (i:=13) (v:=.pointer (some ⟨y1,4,none⟩)) rfl) hI
   simp only [puts,Act.put,qA,qB,qC,List.set_nil] at hk
   go_simp
   exact hk
  ·obtain rfl:=HF.out.got (HD.out 13 (by decide)) (i:=13) rfl rfl
   have c:=(HP2.out.ext hI.1).cell (i:=4) rfl
   have hk:=HK.out _ wq z s1 s2 bv (HF.out.put (i:=14) (v:=.bool P.limited) rfl) hI
   simp only [puts,Act.put,qA,qB,qC,List.set_nil] at hk
   go_simp
   exact hk
  ·have hk:=HK.out _ wq z s1 s2 bv (HF.out.put (i:=15) (v:=.pointer (some ⟨y1,5,none⟩)) rfl) hI
   simp only [puts,Act.put,qA,qB,qC,List.set_nil] at hk
   go_simp
   exact hk
  ·obtain rfl:=HF.out.got (HD.out 15 (by decide)) (i:=15) rfl rfl
   have c:=(HP2.out.ext hI.1).cell (i:=5) rfl
   have hk:=HK.out _ wq z s1 s2 bv (HF.out.put (i:=16) (v:=.int .i64 P.limit) rfl) hI
   simp only [puts,Act.put,qA,qB,qC,List.set_nil] at hk
   go_simp
   exact hk
  ·have hk:=HK.out _ wq z s1 s2 bv (HF.out.put (i:=17) (v:=.pointer (some ⟨y1,6,none⟩)) rfl) hI
   simp only [puts,Act.put,qA,qB,qC,List.set_nil] at hk
   go_simp
   exact hk
  ·obtain rfl:=HF.out.got (HD.out 17 (by decide)) (i:=17) rfl rfl
   have c:=(HP2.out.ext hI.1).cell (i:=6) rfl
   have hk:=HK.out _ wq z s1 s2 bv (HF.out.put (i:=18) (v:=.int .i64 P.offset) rfl) hI
   simp only [puts,Act.put,qA,qB,qC,List.set_nil] at hk
   go_simp
   exact hk
  ·obtain rfl:=HF.out.got (HD.out 0 (by decide)) (i:=0) rfl rfl
   obtain rfl:=HF.out.got (HD.out 4 (by decide)) (i:=4) rfl rfl
   obtain rfl:=HF.out.got (HD.out 8 (by decide)) (i:=8) rfl rfl
   obtain rfl:=HF.out.got (HD.out 10 (by decide)) (i:=10) rfl rfl
   obtain rfl:=HF.out.got (HD.out 12 (by decide)) (i:=12) rfl rfl
   obtain rfl:=HF.out.got (HD.out 14 (by decide)) (i:=14) rfl rfl
   obtain rfl:=HF.out.got (HD.out 16 (by decide)) (i:=16) rfl rfl
   obtain rfl:=HF.out.got (HD.out 18 (by decide)) (i:=18) rfl rfl
   have b4:=HD.out 4 (by decide)
   have b8:=HD.out 8 (by decide)
   obtain ⟨t1,t2,rfl⟩:=own_vw (hI.2.1 b4)
   obtain ⟨t3,t4,rfl⟩:=own_vw (hI.2.2.1 b8)
   have hk:=HK.out _ wq z (.slice t1 P.ret.length t2) (.slice t3 P.hint.length t4) (.agg (golC (.slice va V.length vc) (.slice none 0 0) (.slice t1 P.ret.length t2) (.slice t3 P.hint.length t4) (golOf P [])).toArray) (HF.out.new (i:=19) (.agg (golC (.slice va V.length vc) (.slice none 0 0) (.slice t1 P.ret.length t2) (.slice t3 P.hint.length t4) (golOf P [])).toArray) HN.out (by show 19 < 21;decide)) ⟨hI.1,hI.2.1,hI.2.2.1,hI.2.2.2.1,hI.2.2.2.2.1,fun _=>⟨rfl,b4,b8⟩⟩
   simp only [puts,Act.put,qA,qB,qC,List.set_nil] at hk
   rw [if_pos (show Region.wanted _ _ = true from rfl)]
   refine inv_built2 _ _ rfl (golC (.slice va V.length vc) (.slice none 0 0) (.slice t1 P.ret.length t2) (.slice t3 P.hint.length t4) (golOf P [])).toArray ?_ ?_
   ·kernel_rfl
   ·exact hk
  ·have hx:=Ext.alloc wq (.cells #[.slice none 0 0,.slice none 0 0,.slice none 0 0,.bool false,.bool false,.bool false,.int .i64 0,.int .i64 0,.slice none 0 0] 39)
   have hr:RowAt (wq.alloc (.cells #[.slice none 0 0,.slice none 0 0,.slice none 0 0,.bool false,.bool false,.bool false,.int .i64 0,.int .i64 0,.slice none 0 0] 39)) wq.heap.size 39 [.slice none 0 0,.slice none 0 0,.slice none 0 0,.bool false,.bool false,.bool false,.int .i64 0,.int .i64 0,.slice none 0 0]:=RowAt.new _ _ _
   have hn:=HN.out
   have hz:S 21 = false:=by cases h:S 21;rfl;exact absurd (hI.2.2.2.2.1 h).1 (by rw [hn];decide)
   have hk:=HK.out _ _ wq.heap.size s1 s2 bv (HF.out.new (i:=20) (.pointer (some ⟨wq.heap.size,0,none⟩)) HN.out (by show 20 < 21;decide)) ⟨hI.1.trans hx,fun h=>own_ext (hI.2.1 h) hx,fun h=>own_ext (hI.2.2.1 h) hx,fun _=>⟨hI.1.size,by rw [show updB S 20 21 = S 21 from rfl,hz,if_neg (by decide)];exact hr⟩,fun h=>⟨rfl,(hI.2.2.2.2.1 h).2⟩,hI.2.2.2.2.2⟩
   simp only [puts,Act.put,qA,qB,qC,List.set_nil] at hk
   go_simp
   exact hk
  ·obtain rfl:=HF.out.got (HD.out 4 (by decide)) (i:=4) rfl rfl
   obtain rfl:=HF.out.got (HD.out 8 (by decide)) (i:=8) rfl rfl
   obtain rfl:=HF.out.got (HD.out 19 (by decide)) (i:=19) rfl rfl
   obtain rfl:=HF.out.got (HD.out 20 (by decide)) (i:=20) rfl rfl
   have b4:=HD.out 4 (by decide)
   have b8:=HD.out 8 (by decide)
   obtain ⟨hbv,_,_⟩:=hI.2.2.2.2.2 (HD.out 19 (by decide))
   subst hbv
   obtain ⟨t1,t2,rfl⟩:=own_vw (hI.2.1 b4)
   obtain ⟨t3,t4,rfl⟩:=own_vw (hI.2.2.1 b8)
   obtain ⟨hzl,hrow⟩:=hI.2.2.2.1 (HD.out 20 (by decide))
   rw [HN.out,if_neg (by decide)] at hrow
   have hgs:=setRow_grown wq z (golC (.slice va V.length vc) (.slice none 0 0) (.slice t1 P.ret.length t2) (.slice t3 P.hint.length t4) (golOf P [])).toArray
   have hk:=HK.out _ _ z (.slice t1 P.ret.length t2) (.slice t3 P.hint.length t4) _ (HF.out.out (by show 21 ≤ 21;decide)) ⟨below_setRow hI.1 hzl (golC (.slice va V.length vc) (.slice none 0 0) (.slice t1 P.ret.length t2) (.slice t3 P.hint.length t4) (golOf P [])).toArray,fun h=>own_turn (hI.2.1 h) hrow (by decide) hgs,fun h=>own_turn (hI.2.2.1 h) hrow (by decide) hgs,fun _=>⟨hzl,by rw [updB_at,if_pos rfl];exact hrow.setRow _⟩,fun _=>⟨HD.out 20 (by decide),b4,b8⟩,fun _=>⟨rfl,b4,b8⟩⟩
   simp only [puts,Act.put,qA,qB,qC,List.set_nil] at hk
   rw [if_pos (show Region.wanted _ _ = true from rfl)]
   refine wp_store_row _ _ _ rfl z (golC (.slice va V.length vc) (.slice none 0 0) (.slice t1 P.ret.length t2) (.slice t3 P.hint.length t4) (golOf P [])).toArray rfl rfl _ _ hrow (by kernel_rfl) rfl (all_oneCell_toArray (by simp [golC,Value.oneCell'])) ?_
   exact hk
 ·rintro S us wq hS ⟨z,s1,s2,bv,hF,hI⟩
  obtain ⟨u0,u1,u2,u3,u4,u5,u6,u7,u8,u9,u10,u11,u12,u13,u14,u15,u16,u17,u18,u19,u20,rfl⟩:=len21 hF.len rfl
  obtain rfl:=hF.got (hS 0 (by decide)) (i:=0) rfl rfl
  obtain rfl:=hF.got (hS 1 (by decide)) (i:=1) rfl rfl
  obtain rfl:=hF.got (hS 2 (by decide)) (i:=2) rfl rfl
  obtain rfl:=hF.got (hS 3 (by decide)) (i:=3) rfl rfl
  obtain rfl:=hF.got (hS 4 (by decide)) (i:=4) rfl rfl
  obtain rfl:=hF.got (hS 5 (by decide)) (i:=5) rfl rfl
  obtain rfl:=hF.got (hS 6 (by decide)) (i:=6) rfl rfl
  obtain rfl:=hF.got (hS 7 (by decide)) (i:=7) rfl rfl
  obtain rfl:=hF.got (hS 8 (by decide)) (i:=8) rfl rfl
  obtain rfl:=hF.got (hS 9 (by decide)) (i:=9) rfl rfl
  obtain rfl:=hF.got (hS 10 (by decide)) (i:=10) rfl rfl
  obtain rfl:=hF.got (hS 11 (by decide)) (i:=11) rfl rfl
  obtain rfl:=hF.got (hS 12 (by decide)) (i:=12) rfl rfl
  obtain rfl:=hF.got (hS 13 (by decide)) (i:=13) rfl rfl
  obtain rfl:=hF.got (hS 14 (by decide)) (i:=14) rfl rfl
  obtain rfl:=hF.got (hS 15 (by decide)) (i:=15) rfl rfl
  obtain rfl:=hF.got (hS 16 (by decide)) (i:=16) rfl rfl
  obtain rfl:=hF.got (hS 17 (by decide)) (i:=17) rfl rfl
  obtain rfl:=hF.got (hS 18 (by decide)) (i:=18) rfl rfl
  obtain rfl:=hF.got (hS 19 (by decide)) (i:=19) rfl rfl
  obtain rfl:=hF.got (hS 20 (by decide)) (i:=20) rfl rfl
  have HS:=hid hS
  clear hF hS
  simp only [puts,Act.put,qA,qB,qC,List.set_nil]
  obtain ⟨hX,ho1,ho2,hg,_,hb9⟩:=hI
  obtain ⟨hb9,_,_⟩:=hb9 (HS.out 19 (by decide))
  subst hb9
  have o1:=ho1 (HS.out 4 (by decide))
  have o2:=ho2 (HS.out 8 (by decide))
  obtain ⟨hzl,hrow⟩:=hg (HS.out 20 (by decide))
  rw [HS.out 21 (by decide),if_pos rfl] at hrow
  obtain ⟨t1,t2,rfl⟩:=own_vw o1
  obtain ⟨t3,t4,rfl⟩:=own_vw o2
  have HXQ:=hid hX
  have HO1:=hid o1
  have HO2:=hid o2
  have HZL:=hid hzl
  have HRZ:=hid hrow
  clear hX ho1 ho2 hg o1 o2 hzl hrow HS
  have c1:=(HP2.out.ext HXQ.out).cell (i:=1) rfl
  go_upto_if 39 with fail
  clear c1
  obtain ⟨T,hT⟩:∃ T:List ByteArray,(if P.ret = [] then V else P.ret) = T:=⟨_,rfl⟩
  have HTE:=hid hT
  clear hT
  go_cut [40] (fun s40 wx=>Hid (∃ (t5:Option Addr) (t6:Nat),Ext w2 wx ∧ RowAt wx z 39 (golC (.slice va V.length vc) (.slice none 0 0) (.slice t5 T.length t6) (.slice t3 P.hint.length t4) (golOf P [])) ∧ wx.ownsRow w2.heap.size 3 1 (.slice t5 T.length t6) T.length ((T.map (findF V)).map (Value.int .i64)) ∧ wx.ownsRow w2.heap.size 3 1 (.slice t3 P.hint.length t4) P.hint.length ((P.hint.map (findF V)).map (Value.int .i64))))
  case first =>
   by_cases hr:P.ret = []
   ·have b1:((P.ret.length:Int) == 0) = true:=by rw [hr];rfl
    obtain rfl:V = T:=by rw [← HTE.out,if_pos hr]
    clear hr HTE
    go_upto_region 4 with fail
    apply wp_region_lit
    iterate 2 (refine wpList_plain rfl fun Y y'=>?_;go_simp;refine y' _ _ ?_;clear y' Y)
    refine wpList_plain rfl fun K1 hK1=>?_
    go_simp
    refine (HPV.out wq HXQ.out).mono ?_;rintro e w5 ⟨t5,t6,rfl,ho5,hx5⟩
    go_simp
    refine hK1 _ _ ?_
    clear hK1 K1
    have hrz:=HRZ.out.ext hx5
    have cc:=hrz.cell (i:=2) rfl
    have ff:=hrz.frozen 2
    have hgs:=grown_set w5 z 2 (.slice t5 V.length t6)
    have HFN:Hid (∃ (t7:Option Addr) (t8:Nat),Ext w2 (w5.setCell ⟨z,2,none⟩ (.slice t5 V.length t6)) ∧ RowAt (w5.setCell ⟨z,2,none⟩ (.slice t5 V.length t6)) z 39 (golC (.slice va V.length vc) (.slice none 0 0) (.slice t7 V.length t8) (.slice t3 P.hint.length t4) (golOf P [])) ∧ (w5.setCell ⟨z,2,none⟩ (.slice t5 V.length t6)).ownsRow w2.heap.size 3 1 (.slice t7 V.length t8) V.length ((V.map (findF V)).map (Value.int .i64)) ∧ (w5.setCell ⟨z,2,none⟩ (.slice t5 V.length t6)).ownsRow w2.heap.size 3 1 (.slice t3 P.hint.length t4) P.hint.length ((P.hint.map (findF V)).map (Value.int .i64))) :=
     hid ⟨t5,t6,Ext.set_of (HXQ.out.trans hx5) HZL.out _,hrz.set 2 _,own_turn (own_base ho5 HXQ.out.size) hrz (by decide) hgs,own_turn (own_ext HO2.out hx5) hrz (by decide) hgs⟩
    clear hrz hgs ho5 hx5
    iterate 2 (refine wpList_plain rfl fun Y y'=>?_;go_simp;refine y' _ _ ?_;clear y' Y)
    apply wpList_nil
    go_wp2_with fail
    go_meet
    exact HFN
   ·have b1:((P.ret.length:Int) == 0) = false:=by
     have:=List.length_pos_iff.2 hr
     rw [beq_eq_false_iff_ne];omega
    obtain rfl:P.ret = T:=by rw [← HTE.out,if_neg hr]
    have HFN:=hid (show ∃ (t5:Option Addr) (t6:Nat),Ext w2 wq ∧ RowAt wq z 39 (golC (.slice va V.length vc) (.slice none 0 0) (.slice t5 P.ret.length t6) (.slice t3 P.hint.length t4) (golOf P [])) ∧ wq.ownsRow w2.heap.size 3 1 (.slice t5 P.ret.length t6) P.ret.length ((P.ret.map (findF V)).map (Value.int .i64)) ∧ wq.ownsRow w2.heap.size 3 1 (.slice t3 P.hint.length t4) P.hint.length ((P.hint.map (findF V)).map (Value.int .i64)) from ⟨_,_,HXQ.out,HRZ.out,HO1.out,HO2.out⟩)
    clear hr HTE
    go_wp2_with fail
    go_meet
    exact HFN
  case rest =>
   obtain ⟨t5,t6,hx3,hr3,ho1,ho2⟩:=hcut.out
   obtain ⟨w3,hw3⟩:∃ x,x = wc:=⟨_,rfl⟩
   subst hw3
   have HX3:=hid hx3
   have HR3:=hid hr3
   have HI1:=hid ho1
   have HI2:=hid ho2
   clear hcut hx3 hr3 ho1 ho2 HXQ HO1 HO2 HRZ HPR HPH HPV
   have HC:=hid (fun (a:Atm) (ha:a ∈ P.atoms) w' (hx:Ext w2 w')=>atomR_any A D V (.slice va V.length vc) w' a (HKD.out a ha) (HVD.out.ext (HX2.out.trans hx)) (Strs.ext HVV.out hx))
   have c0:=(HP2.out.ext HX3.out).cell (i:=0) rfl
   go_wp2_with fail
   clear c0
   go_loopg [47] P.atoms.length (fun g i wr=>∃ (k:Nat) (bs:List Bnd) (aa:Option Addr) (ac:Nat),k ≤ P.atoms.length ∧ g = P.atoms.length - k ∧ i = .int .i64 k ∧ Hid (PreI (bndF D V) P.atoms k bs) ∧ Hid (Ext w2 wr) ∧ Hid (RowAt wr z 39 (golC (.slice va V.length vc) (.slice aa k ac) (.slice t5 T.length t6) (.slice t3 P.hint.length t4) (golOf P []))) ∧ Hid (wr.ownsRow w2.heap.size 75 6 (.slice aa k ac) k (bs.flatMap bndCells)) ∧ Hid (wr.ownsRow w2.heap.size 3 1 (.slice t5 T.length t6) T.length ((T.map (findF V)).map (Value.int .i64))) ∧ Hid (wr.ownsRow w2.heap.size 3 1 (.slice t3 P.hint.length t4) P.hint.length ((P.hint.map (findF V)).map (Value.int .i64))))
   case atStart=>exact ⟨0,[],none,0,Nat.zero_le _,rfl,rfl,hid (PreI.start _ _),HX3,HR3,hid (World.ownsRow_nil _ _ _ _),HI1,HI2⟩
   case round =>
    obtain ⟨k,bs,aa,ac,hk,hg,rfl,HI,HXR,HR,HO,HJ1,HJ2⟩:=hrel
    have Hg:=hid hg
    have HLEN:=hid HI.out.2
    clear hg HX3 HR3 HI1 HI2
    have hk1:k ≤ 40:=by omega
    by_cases hlt:k < P.atoms.length
    ·obtain ⟨b,o,rfl,c0,c1,c2,c3,c4,c5,c6⟩:=(HA.out.ext (HX2.out.trans HXR.out)).at_ hlt
     have hmem:=List.getElem_mem hlt
     have HBO0:=fun w' (hx:Ext w2 w')=>HC.out P.atoms[k] hmem w' hx
     have HSM:=hid (fun b h=>HI.out.some hlt (b:=b) h)
     have HNO:=hid (fun h=>HI.out.none hlt h)
     have hF:=bndT_F D V P.atoms[k] (HKD.out _ hmem)
     generalize hAT:P.atoms[k] = x at *
     clear hAT hmem
     obtain ⟨X,hX⟩:∃ X,bndT D V x = X:=⟨_,rfl⟩
     rw [hX] at HBO0 hF
     clear hX
     obtain ⟨Y,yb⟩:=X
     obtain ⟨kd,fk,fn,name,value,tk,tn⟩:=x
     dsimp only at c0 c1 c2 c3 c4 c5 c6 HBO0 hF
     unfold atCells at HBO0
     dsimp only at HBO0
     have HBO:=hid HBO0
     have HFF:=hid hF
     clear HBO0 hF
     have HAX:=hid (Ext.alloc wr (.cells #[.int .i64 kd,.bool fk,.string fn,.string name,.string value,.bool tk,.string tn] 88))
     have HAB:=hid (RowAt.new wr 88 [.int .i64 kd,.bool fk,.string fn,.string name,.string value,.bool tk,.string tn])
     go_upto_region 8 with fail
     replace HAB:Hid (RowAt (wr.alloc (.cells #[.int .i64 kd,.bool fk,.string fn,.string name,.string value,.bool tk,.string tn] 88)) wr.heap.size 88 [.int .i64 kd,.bool fk,.string fn,.string name,.string value,.bool tk,.string tn]):=HAB
     generalize wr.alloc (.cells #[.int .i64 kd,.bool fk,.string fn,.string name,.string value,.bool tk,.string tn] 88) = wb at *
     obtain ⟨t,ht⟩:∃ t,wr.heap.size = t:=⟨_,rfl⟩
     rw [ht] at HAB
     simp only [ht]
     clear ht c0 c1 c2 c3 c4 c5 c6
     have HXB:=hid (HXR.out.trans HAX.out)
     apply wp_region_lit
     refine plain_load rfl _ _ rfl y0 rfl _ _ (HD2.out.ext HXB.out) Tryz.underlying28 rfl (by kernel_rfl) ?_
     go_simp
     (refine wpList_plain rfl fun Y y'=>?_;go_simp;refine y' _ _ ?_;clear y' Y)
     refine plain_load rfl _ _ rfl t rfl _ _ (HAB.out) Tryz.underlying88 rfl (by kernel_rfl) ?_
     go_simp
     refine wpList_plain rfl fun K1 hK1=>?_
     go_simp
     refine (HBO.out wb HXB.out).mono ?_;rintro e w9 ⟨rfl,hx9⟩
     go_simp
     refine hK1 _ _ ?_
     clear hK1 K1
     iterate 4 (refine wpList_plain rfl fun Y y'=>?_;go_simp;refine y' _ _ ?_;clear y' Y)
     have hax:=Ext.alloc w9 (.cells #[.int .i64 0,.int .i64 0,.int .i64 0,.int .i64 0,.int .i64 0,.int .i64 0] 75)
     have har:RowAt (w9.alloc (.cells #[.int .i64 0,.int .i64 0,.int .i64 0,.int .i64 0,.int .i64 0,.int .i64 0] 75)) w9.heap.size 75 (#[.int .i64 0,.int .i64 0,.int .i64 0,.int .i64 0,.int .i64 0,.int .i64 0]).toList:=RowAt.new _ _ _
     refine plain_store rfl _ _ _ rfl w9.heap.size (bndCells Y) rfl rfl har (by kernel_rfl) rfl ((by simp [bndCells,Value.oneCell'])) ?_
     have hex:Ext w9 ((w9.alloc (.cells #[.int .i64 0,.int .i64 0,.int .i64 0,.int .i64 0,.int .i64 0,.int .i64 0] 75)).setRow w9.heap.size (bndCells Y).toArray):=below_setRow hax (Nat.le_refl _) _
     have HEw10:=hid hex
     have HRy:=hid (har.setRow (bndCells Y))
     clear hax har hex
     go_simp
     generalize (w9.alloc (.cells #[.int .i64 0,.int .i64 0,.int .i64 0,.int .i64 0,.int .i64 0,.int .i64 0] 75)).setRow w9.heap.size (bndCells Y).toArray = w10 at *
     obtain ⟨y,hsy⟩:∃ x,w9.heap.size = x:=⟨_,rfl⟩
     rw [hsy] at HRy
     simp only [hsy]
     have HSy:=hid hsy
     clear hsy
     (refine wpList_plain rfl fun Y y'=>?_;go_simp;refine y' _ _ ?_;clear y' Y)
     apply wpList_nil
     have hx10:=HAX.out.trans (hx9.trans HEw10.out)
     have HX10:=hid (HXR.out.trans hx10)
     have HR10:=hid (HR.out.ext hx10)
     have HO10:=hid (own_ext HO.out hx10)
     have HK1:=hid (own_ext HJ1.out hx10)
     have HK2:=hid (own_ext HJ2.out hx10)
     have HRY:=hid (show RowAt w10 y 75 (bndCells Y) from HRy.out)
     clear hx10 hx9 HEw10 HRy HSy HXB HAX HAB HXR HR HO HJ1 HJ2 HBO HI
     cases yb with
     | false =>
      have hw:IntKind.i64.wrap ((k:Int) + 1) = (k:Int) + 1:=IntWalk.i64_in _ (by omega)
      have HPN:=hid (HNO.out (by rw [HFF.out];rfl))
      go_upto_region 10 with fail
      apply wp_region_lit
      refine wpList_built rfl _ _ rfl #[.slice none 0 0,.slice none 0 0,.slice none 0 0,.bool false,.bool false,.bool false,.int .i64 0,.int .i64 0,.slice none 0 0] (by kernel_rfl) ?_
      iterate 2 (refine wpList_plain rfl fun Y y'=>?_;go_simp;refine y' _ _ ?_;clear y' Y)
      refine plain_store rfl _ _ _ rfl y2 ([.slice none 0 0,.slice none 0 0,.slice none 0 0,.bool false,.bool false,.bool false,.int .i64 0,.int .i64 0,.slice none 0 0]) rfl rfl (HZ2.out.ext HX10.out) (by kernel_rfl) rfl ((by simp [Value.oneCell'])) ?_
      have HRR:=hid ((HZ2.out.ext HX10.out).setRow ([.slice none 0 0,.slice none 0 0,.slice none 0 0,.bool false,.bool false,.bool false,.int .i64 0,.int .i64 0,.slice none 0 0]))
      have HXX:=hid (show Ext w ((w10).setRow y2 ([.slice none 0 0,.slice none 0 0,.slice none 0 0,.bool false,.bool false,.bool false,.int .i64 0,.int .i64 0,.slice none 0 0]).toArray) from below_setRow (HX2.out.trans HX10.out) ((by have:=HN.out;omega)) _)
      go_simp
      generalize (w10).setRow y2 ([.slice none 0 0,.slice none 0 0,.slice none 0 0,.bool false,.bool false,.bool false,.int .i64 0,.int .i64 0,.slice none 0 0]).toArray = wend at *
      iterate 2 (refine wpList_plain rfl fun Y y'=>?_;go_simp;refine y' _ _ ?_;clear y' Y)
      apply wpList_nil
      go_wp2_with fail
      exact bodyPost_ret (results_row2 rfl rfl HRR.out Tryz.underlying39 rfl (by kernel_rfl)) rfl (⟨[.slice none 0 0,.slice none 0 0,.slice none 0 0,.bool false,.bool false,.bool false,.int .i64 0,.int .i64 0,.slice none 0 0],zGol,(k:Int) + 1,false,rfl,.inr ⟨rfl,by unfold goalF bndsF;rw [HVE.out,HPN.out];rfl,rfl,by unfold bndsF;rw [HVE.out,HPN.out];show (k:Int) + 1 = (bs.length:Int) + 1;rw [HLEN.out]⟩,zGol_o _ _,HXX.out⟩)
     | true =>
      have HPI:=hid (HSM.out Y (by rw [HFF.out];rfl))
      have c1:=HR10.out.cell (i:=1) rfl
      go_upto_region 11 with fail
      apply wp_region_lit
      iterate 2 (refine wpList_plain rfl fun Y y'=>?_;go_simp;refine y' _ _ ?_;clear y' Y)
      refine plain_load rfl _ _ rfl y rfl _ _ (HRY.out) Tryz.underlying75 rfl (by kernel_rfl) ?_
      go_simp
      clear c1
      have hxe:=Ext.alloc w10 (.cells (bndCells Y).toArray 75)
      have hre:=RowAt.new w10 75 (bndCells Y)
      have HX11:=hid (HX10.out.trans hxe)
      have HR11:=hid (HR10.out.ext hxe)
      have HO11:=hid (show (w10.alloc (.cells #[.int .i64 Y.kind,.int .i64 Y.name,.int .i64 Y.a.var,.int .i64 Y.a.id,.int .i64 Y.b.var,.int .i64 Y.b.id] 75)).ownsRow w2.heap.size 75 6 (.slice aa k ac) k (bs.flatMap bndCells) from own_ext HO10.out hxe)
      have HL1:=hid (own_ext HK1.out hxe)
      have HL2:=hid (own_ext HK2.out hxe)
      have HRE:=hid hre
      have hsz:w2.heap.size ≤ w10.heap.size:=HX10.out.size
      have HSZ:=hid hsz
      clear hxe hre HX10 HR10 HO10 HK1 HK2 HRY hsz
      unfold bndCells at HX11 HR11 HL1 HL2 HRE
      unfold bndCells
      (refine wpList_plain rfl fun Y y'=>?_;go_simp;refine y' _ _ ?_;clear y' Y)
      generalize w10.alloc (.cells #[.int .i64 Y.kind,.int .i64 Y.name,.int .i64 Y.a.var,.int .i64 Y.a.id,.int .i64 Y.b.var,.int .i64 Y.b.id] 75) = w11 at *
      obtain ⟨q,hq⟩:∃ q,w10.heap.size = q:=⟨_,rfl⟩
      rw [hq] at HRE HSZ
      simp only [hq]
      clear hq
      refine wpList_append_sl _ rfl _ _ 37 rfl elBn rfl HO11.out rfl (RowAt.sl (show RowAt w11 q 75 (bndCells Y) from HRE.out) 1 1 (Nat.le_refl _) (by unfold maxLen;omega)) rfl (bndCells_one _) (by omega) (by unfold maxLen;omega) HX11.out.size ?_
      intro v' w12 how12 hb12 hg12 _
      obtain ⟨a2,c2,rfl⟩:=own_vw how12
      have hx12:Ext w2 w12:=Below.trans HX11.out hb12
      have hr12:RowAt w12 z 39 (golC (.slice va V.length vc) (.slice aa k ac) (.slice t5 T.length t6) (.slice t3 P.hint.length t4) (golOf P [])):=HR11.out.kept hg12 (fun e=>own_ne_row HO11.out HR11.out (by decide) _ e rfl)
      have hl1:=own_apart HL1.out hg12 (fun b hb=>own_ne_own HL1.out HO11.out (by decide) b hb)
      have hl2:=own_apart HL2.out hg12 (fun b hb=>own_ne_own HL2.out HO11.out (by decide) b hb)
      have cc:=hr12.cell (i:=1) rfl
      have ff:=hr12.frozen 1
      have hgs:=grown_set w12 z 1 (.slice a2 (k + 1) c2)
      have HX13:=hid (show Ext w2 (w12.setCell ⟨z,1,none⟩ (.slice a2 (k + 1) c2)) from Ext.set_of hx12 HZL.out _)
      have HR13:=hid (show RowAt (w12.setCell ⟨z,1,none⟩ (.slice a2 (k + 1) c2)) z 39 (golC (.slice va V.length vc) (.slice a2 (k + 1) c2) (.slice t5 T.length t6) (.slice t3 P.hint.length t4) (golOf P [])) from hr12.set 1 _)
      have HO13:=hid (show (w12.setCell ⟨z,1,none⟩ (.slice a2 (k + 1) c2)).ownsRow w2.heap.size 75 6 (.slice a2 (k + 1) c2) (k + 1) ((bs ++ [Y]).flatMap bndCells) from by rw [flat_snocB];exact own_turn how12 hr12 (by decide) hgs)
      have HM1:=hid (own_turn hl1 hr12 (by decide) hgs)
      have HM2:=hid (own_turn hl2 hr12 (by decide) hgs)
      clear how12 hb12 hg12 hx12 hr12 hl1 hl2 hgs HX11 HR11 HL1 HL2 HRE HO11
      iterate 2 (refine wpList_plain rfl fun Y y'=>?_;go_simp;refine y' _ _ ?_;clear y' Y)
      clear cc ff
      generalize w12.setCell ⟨z,1,none⟩ (.slice a2 (k + 1) c2) = w13 at *
      apply wpList_nil
      go_wp2_with fail
      go_roundg (P.atoms.length - (k + 1))
      case measure=>have:=Hg.out;omega
      case rel=>exact ⟨k + 1,bs ++ [Y],a2,c2,by omega,rfl,by first | rfl | go_num,HPI,HX13,HR13,HO13,HM1,HM2⟩
    ·have he:k = P.atoms.length:=by omega
     subst he
     have HF:=hid HI.out.done
     clear HI
     go_upto_region 13 with fail
     refine wp_region_grox [y2] groO13 [0,1,2,3,4,5,6] hmo (by kernel_rfl) rfl (by kernel_rfl) (fun _ _ _ _ _ h=>h) ?_
     have hxd:Ext wr wr.drew:=Ext.drewN wr 1
     have HX4:=hid (HXR.out.trans hxd)
     have HR4:=hid (HR.out.ext hxd)
     have HO4:=hid (own_ext HO.out hxd)
     have HM1:=hid (own_ext HJ1.out hxd)
     have HM2:=hid (own_ext HJ2.out hxd)
     clear hxd HXR HR HO HJ1 HJ2
     generalize wr.drew = w4 at *
     have c0:=(HP2.out.ext HX4.out).cell (i:=0) rfl
     have hZ4:=HZ2.out.ext HX4.out
     have hzy:¬ z ∈ [y2]:=by have h1:=HZ2.out.lt;have h2:=HZL.out;simp;omega
     have hy1:¬ y1 ∈ [y2]:=by have:=HN.out;simp;omega
     have hy1':¬ y1 = y2:=by have:=HN.out;omega
     have HZ4:=hid hZ4
     clear hZ4
     refine groX_load rfl rfl rfl _ _ rfl z 0 rfl (golC (.slice va V.length vc) (.slice aa P.atoms.length ac) (.slice t5 T.length t6) (.slice t3 P.hint.length t4) (golOf P bs)) _ HR4.out.whole hzy Tryz.underlying39 rfl (by kernel_rfl) ?_
     repeat (first
      | (refine groX_pure rfl rfl ?_;intro K hK;go_simp;refine hK _ ?_;clear hK K)
      | (refine groX_read rfl rfl ?_;intro K S hS hK;go_simp;refine hK _ ?_;clear hK K hS S)
      | (refine groX_read rfl rfl ?_;intro K S hS hK;go_simp;refine ⟨hS _ ?_,hK _ ?_⟩;(clear hK K hS S;intro w' hx';have hce:=grows_some hx';go_simp);clear hK K hS S))
     have hgw:=setRow_grown w4 y2 (golC (.slice va V.length vc) (.slice aa P.atoms.length ac) (.slice t5 T.length t6) (.slice t3 P.hint.length t4) (golOf P bs)).toArray
     have HX5:=hid (show Ext w (w4.setRow y2 (golC (.slice va V.length vc) (.slice aa P.atoms.length ac) (.slice t5 T.length t6) (.slice t3 P.hint.length t4) (golOf P bs)).toArray) from below_setRow (HX2.out.trans HX4.out) (by have:=HN.out;omega) _)
     have HZ5:=hid (HZ4.out.setRow (golC (.slice va V.length vc) (.slice aa P.atoms.length ac) (.slice t5 T.length t6) (.slice t3 P.hint.length t4) (golOf P bs)))
     have HN1:=hid (own_turn HM1.out HZ4.out (by decide) hgw)
     have HN2:=hid (own_turn HM2.out HZ4.out (by decide) hgw)
     have HO5:=hid (own_turn HO4.out HZ4.out (by decide) hgw)
     have HV5:=hid (Strs.turnY (Strs.ext HVV.out HX4.out) HZ4.out (by intro x hx s;simp at hx;rcases hx with rfl | rfl | rfl | rfl <;> simp) (golC (.slice va V.length vc) (.slice aa P.atoms.length ac) (.slice t5 T.length t6) (.slice t3 P.hint.length t4) (golOf P bs)).toArray)
     refine groX_store rfl rfl rfl _ _ _ rfl y2 (golC (.slice va V.length vc) (.slice aa P.atoms.length ac) (.slice t5 T.length t6) (.slice t3 P.hint.length t4) (golOf P bs)) rfl rfl HZ4.out (by simp) (by kernel_rfl) rfl (by simp [golC,Value.oneCell']) ?_
     clear hgw HX4 HZ4 HM1 HM2 HO4 HR4
     generalize w4.setRow y2 (golC (.slice va V.length vc) (.slice aa P.atoms.length ac) (.slice t5 T.length t6) (.slice t3 P.hint.length t4) (golOf P bs)).toArray = w5 at *
     repeat (first
      | (refine groX_pure rfl rfl ?_;intro K hK;go_simp;refine hK _ ?_;clear hK K)
      | (refine groX_read rfl rfl ?_;intro K S hS hK;go_simp;refine hK _ ?_;clear hK K hS S)
      | (refine groX_read rfl rfl ?_;intro K S hS hK;go_simp;refine ⟨hS _ ?_,hK _ ?_⟩;(clear hK K hS S;intro w' hx';have hce:=grows_some hx';go_simp);clear hK K hS S))
     refine groX_nil ?_
     go_wp2_with fail
     have hg1:goalF D P = some (golOf P bs):=by unfold goalF bndsF;rw [HVE.out,HF.out];rfl
     have hv1:Strs w5 (.slice va V.length vc) (golOf P bs).vars:=by show Strs w5 _ (varsS P.atoms);rw [HVE.out];exact HV5.out
     have hbs:w.heap.size ≤ w2.heap.size:=HX2.out.size
     have hb1:w5.ownsRow w.heap.size 75 6 (.slice aa P.atoms.length ac) (golOf P bs).atoms.length ((golOf P bs).atoms.flatMap bndCells):=by
      show w5.ownsRow _ _ _ _ bs.length (bs.flatMap bndCells)
      rw [HLEN.out]
      exact own_base HO5.out hbs
     have hi1:w5.ownsRow w.heap.size 3 1 (.slice t5 T.length t6) (golOf P bs).ret.length ((golOf P bs).ret.map (Value.int .i64)):=by
      show w5.ownsRow _ _ _ _ ((if P.ret = [] then varsS P.atoms else P.ret).map (findF (varsS P.atoms))).length (((if P.ret = [] then varsS P.atoms else P.ret).map (findF (varsS P.atoms))).map (Value.int .i64))
      rw [HVE.out,HTE.out,List.length_map]
      exact own_base HN1.out hbs
     have hi2:w5.ownsRow w.heap.size 3 1 (.slice t3 P.hint.length t4) (golOf P bs).hint.length ((golOf P bs).hint.map (Value.int .i64)):=by
      show w5.ownsRow _ _ _ _ (P.hint.map (findF (varsS P.atoms))).length ((P.hint.map (findF (varsS P.atoms))).map (Value.int .i64))
      rw [HVE.out,List.length_map]
      exact own_base HN2.out hbs
     exact bodyPost_ret (results_row2 rfl rfl HZ5.out Tryz.underlying39 rfl (by kernel_rfl)) rfl ⟨golC (.slice va V.length vc) (.slice aa P.atoms.length ac) (.slice t5 T.length t6) (.slice t3 P.hint.length t4) (golOf P bs),golOf P bs,P.atoms.length,true,rfl,.inl ⟨rfl,hg1,rfl⟩,⟨_,_,_,_,rfl,hv1,hb1,hi1,hi2⟩,HX5.out⟩
end

end Go.Proofs.YtkmbnghghbfkdaaGreat
