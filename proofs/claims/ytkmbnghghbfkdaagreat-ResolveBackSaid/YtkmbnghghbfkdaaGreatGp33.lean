/- The atoms of a goal are led back, one by one; the texts that are told. -/
import Derived.Test.YtkmbnghghbfkdaaGreatGp29
import Derived.Test.YtkmbnghghbfkdaaGreatGp32
set_option linter.unusedSimpArgs false
set_option linter.unusedVariables false
set_option maxHeartbeats 2000000
set_option maxRecDepth 100000
namespace Go.Proofs.YtkmbnghghbfkdaaGreat
open Go.Lib (hid)

section
open Go.RowKit Go.Shelf Go.Sort
attribute [local go_sem] Oper.semAt_some wide_fn wide_depth
theorem elAtR:ElT Tryz.prog 33 88 (.agg #[.int .i64 0,.bool false,.string ⟨#[]⟩,.string ⟨#[]⟩,.string ⟨#[]⟩,.bool false,.string ⟨#[]⟩]) 7 88:=⟨Tryz.underlying33,⟨_,rfl,by kernel_rfl,by kernel_rfl,by kernel_rfl⟩,rfl,by decide⟩
def zAt:Atm:=⟨0,false,nilB,nilB,nilB,false,nilB⟩
theorem atCells_oneR (b:Atm):∀ x ∈ atCells b,x.oneCell' = true:=by simp [atCells,Value.oneCell']
theorem preF_mem {α β:Type} {f:α → Option β}:∀ {l:List α},∀ x ∈ (preF f l).1,∃ y ∈ l,f y = some x
 | [],x,h=>by simp [preF] at h
 | a :: l,x,h=>by
  rw [preF] at h
  cases hf:f a with
  | none=>rw [hf] at h;simp at h
  | some b =>
   rw [hf] at h
   rcases List.mem_cons.1 h with rfl | h
   ·exact ⟨a,List.mem_cons_self ..,hf⟩
   ·obtain ⟨y,hy,e⟩:=preF_mem x h
    exact ⟨y,List.mem_cons_of_mem _ hy,e⟩
theorem PreI.mem {α β:Type} {f:α → Option β} {l:List α} {k:Nat} {bs:List β} (h:PreI f l k bs):∀ x ∈ bs,∃ y ∈ l,f y = .some x:=fun x hx=>preF_mem x (by rw [h.1];exact List.mem_append_left _ hx)
theorem name_size {D:Dic} (h:DicOK D) {k:Nat} (hk:k < 5) {q:Int} {s:ByteArray} (hs:nameO D k q = some s):s.size ≤ 40:=by
 unfold nameO at hs
 split at hs
 ·rename_i hq
  cases hs
  have hb:=(h k hk).2.2
  have hl:q.toNat < (D k).1.length:=by omega
  rw [List.getD_eq_getElem?_getD,List.getElem?_eq_getElem hl]
  unfold badB at hb
  rw [List.any_eq_false] at hb
  have:=hb _ (List.getElem_mem hl)
  simp only [Bool.not_eq_true',Bool.not_eq_false] at this
  unfold mayB at this
  simp only [Bool.and_eq_true,decide_eq_true_eq] at this
  obtain ⟨_,_,h3⟩:=this
  show (D k).1[q.toNat].size ≤ 40
  split at h3
  ·unfold dworthB dallB at h3
   simp only [Bool.and_eq_true,decide_eq_true_eq] at h3
   rw [bts_len] at h3;omega
  ·unfold nameB dallB at h3
   simp only [Bool.and_eq_true,decide_eq_true_eq] at h3
   rw [bts_len] at h3;omega
 ·cases hs
theorem term_size {D:Dic} (h:DicOK D) {V:List ByteArray} (hV:∀ s ∈ V,s.size ≤ 9223372036854775800) {x:Arg} {t:Bool × ByteArray} (ht:termF D V x = some t):t.2.size ≤ 9223372036854775800:=by
 unfold termF at ht
 split at ht
 ·obtain ⟨s,hs,rfl⟩:=Option.map_eq_some_iff.1 ht
  have:=name_size h (by omega) hs
  dsimp only;omega
 ·split at ht
  ·rename_i hq
   cases ht
   have hl:x.var.toNat < V.length:=by omega
   rw [List.getD_eq_getElem?_getD,List.getElem?_eq_getElem hl]
   exact hV _ (List.getElem_mem hl)
  ·cases ht
theorem atmF_fits {D:Dic} (h:DicOK D) {V:List ByteArray} (hV:∀ s ∈ V,s.size ≤ 9223372036854775800) {b:Bnd} {a:Atm} (ha:atmF D V b = some a):a.Fits:=by
 have z:nilB.size = 0:=rfl
 obtain ⟨k,n,x,y⟩:=b
 by_cases hk:0 ≤ k ∧ k ≤ 3
 ·have hc:k = 0 ∨ k = 1 ∨ k = 2 ∨ k = 3:=by omega
  rcases hc with rfl | rfl | rfl | rfl
  ·rw [atmF0] at ha
   obtain ⟨t,ht,rfl⟩:=Option.map_eq_some_iff.1 ha
   exact ⟨term_size h hV ht,by rw [z];omega,by rw [z];omega,by rw [z];omega⟩
  ·rw [atmF1] at ha
   obtain ⟨t,ht,ha⟩:=Option.bind_eq_some_iff.1 ha
   obtain ⟨s,hs,rfl⟩:=Option.map_eq_some_iff.1 ha
   exact ⟨term_size h hV ht,by have:=name_size h (by omega) hs;dsimp only;omega,by rw [z];omega,by rw [z];omega⟩
  ·rw [atmF2] at ha
   obtain ⟨t,ht,ha⟩:=Option.bind_eq_some_iff.1 ha
   obtain ⟨s,hs,ha⟩:=Option.bind_eq_some_iff.1 ha
   obtain ⟨v,hv,rfl⟩:=Option.map_eq_some_iff.1 ha
   exact ⟨term_size h hV ht,by have:=name_size h (by omega) hs;dsimp only;omega,by have:=name_size h (by omega) hv;dsimp only;omega,by rw [z];omega⟩
  ·rw [atmF3] at ha
   obtain ⟨t,ht,ha⟩:=Option.bind_eq_some_iff.1 ha
   obtain ⟨s,hs,ha⟩:=Option.bind_eq_some_iff.1 ha
   obtain ⟨u,hu,rfl⟩:=Option.map_eq_some_iff.1 ha
   exact ⟨term_size h hV ht,by have:=name_size h (by omega) hs;dsimp only;omega,by rw [z];omega,term_size h hV hu⟩
 ·rw [atmF_out hk] at ha
  cases ha
structure BackRow (D:Dic) (V:List ByteArray) (l:List Bnd) (w1 w':World) (bg:Nat) (P0:Pat) (A:List Atm) (R H:List ByteArray):Prop where
 row:∃ av rv hv,RowAt w' bg 35 (patL av rv hv P0) ∧ w'.ownsRow w1.heap.size 88 7 av A.length (A.flatMap atCells) ∧ w'.ownsRow w1.heap.size 9 1 rv R.length (R.map Value.string) ∧ w'.ownsRow w1.heap.size 9 1 hv H.length (H.map Value.string)
 grows:Grows [bg] w1 w'
 mem:∀ a ∈ A,∃ b ∈ l,atmF D V b = some a
 few:A.length ≤ l.length
set_option maxHeartbeats 8000000 in
theorem back1_any {w w1:World} (vs:Nat → Value × Value) (m:Nat) (a0:Option Addr) (c:Nat) (D:Dic) (G:Gol) (P0:Pat) (gav grv ghv:Value) (bp bg bn:Nat) (hx:Ext w w1) (hV:DicV w vs D) (hS:DicS D) (hok:DicOK D)
 (hp:RowAt w1 bp 39 (golC (.slice a0 G.vars.length c) gav grv ghv G)) (hvs:Strs w (.slice a0 G.vars.length c) G.vars) (ha:Bnds w gav G.atoms) (hr:Ints w .i64 grv G.ret) (hh:Ints w .i64 ghv G.hint)
 (hg:RowAt w1 bg 35 (patL (.slice none 0 0) (.slice none 0 0) (.slice none 0 0) P0)) (hn:RowAt w1 bn 98 (nmL vs m (.slice a0 G.vars.length c))) (hlo:w.heap.size ≤ bg)
 (hfew:G.atoms.length ≤ 100000 ∧ G.ret.length ≤ 1000000 ∧ G.hint.length ≤ 1000000 ∧ G.vars.length ≤ 1000000) :
 Calls Tryz.prog 60 #[.pointer (some ⟨bp,0,none⟩),.pointer (some ⟨bg,0,none⟩),.pointer (some ⟨bn,0,none⟩)] w1 fun e w'=>∃ A R H,BackRow D G.vars G.atoms w1 w' bg P0 A R H ∧ ((e = .returned (.tuple #[]) ∧ atmsF D G.vars G.atoms = (A,true) ∧ textsO G.vars G.ret = some R ∧ textsO G.vars G.hint = some H) ∨ (e = unknE ∧ ((atmsF D G.vars G.atoms).2 = false ∨ textsO G.vars G.ret = none ∨ textsO G.vars G.hint = none))):=by
 have hmo:Tryz.prog.follows .mixedOrders = true:=by kernel_rfl
 obtain ⟨pa,pc,rfl,hpc,_⟩:=ha.shape
 obtain ⟨ra,rc,rfl,_,_⟩:=hr.shape
 obtain ⟨ha',hc,rfl,_,_⟩:=hh.shape
 have HC:=hid (fun (W:World) (hW:Grows [bg] w1 W) (b:Bnd)=>natom_any vs m a0 c D G.vars W (hV.ext (hW.over hx (by simpa using hlo))) hS hok (Strs.ext hvs (hW.over hx (by simpa using hlo))) hfew.2.2.2 b)
 have HA:=hid (fun (W:World) (hW:Grows [bg] w1 W)=>ha.ext (hW.over hx (by simpa using hlo)))
 have HT1:=hid (fun (W:World) (hW:Grows [bg] w1 W)=>texts_any vs m a0 c G.vars G.ret _ W (Strs.ext hvs (hW.over hx (by simpa using hlo))) (hr.ext (hW.over hx (by simpa using hlo))) hfew.2.1 hfew.2.2.2)
 have HT2:=hid (fun (W:World) (hW:Grows [bg] w1 W)=>texts_any vs m a0 c G.vars G.hint _ W (Strs.ext hvs (hW.over hx (by simpa using hlo))) (hh.ext (hW.over hx (by simpa using hlo))) hfew.2.2.1 hfew.2.2.2)
 have HP:=hid (fun (W:World) (hW:Grows [bg] w1 W)=>show RowAt W bp 39 (golC (.slice a0 G.vars.length c) (.slice pa G.atoms.length pc) (.slice ra G.ret.length rc) (.slice ha' G.hint.length hc) G) from hW.row hp (by simpa using row_ne hp hg (by decide)))
 have HNM:=hid (fun (W:World) (hW:Grows [bg] w1 W)=>show RowAt W bn 98 (nmL vs m (.slice a0 G.vars.length c)) from hW.row hn (by simpa using row_ne hn hg (by decide)))
 obtain ⟨r1,hr1⟩:∃ r,textsO G.vars G.ret = r:=⟨_,rfl⟩
 obtain ⟨r2,hr2⟩:∃ r,textsO G.vars G.hint = r:=⟨_,rfl⟩
 rw [hr1] at HT1 ⊢
 rw [hr2] at HT2 ⊢
 have HG:=hid hg
 have HBL:=hid hg.lt
 have HFW:=hid hfew.1
 have c0:=hp.cell (i:=1) rfl
 clear hx hV hS hok hp ha hr hh hvs hg hn hlo hpc hfew hr1 hr2
 unfold nmV at HC HT1 HT2
 generalize (Value.slice a0 G.vars.length c) = av at *
 go_enter Tryz.func60,Tryz.ntmps60
 go_wp2_with fail
 clear c0
 go_loopg [8] G.atoms.length (fun g i wr=>∃ (k:Nat) (bs:List Atm) (aa:Option Addr) (ac:Nat),k ≤ G.atoms.length ∧ g = G.atoms.length - k ∧ i = .int .i64 k ∧ Hid (PreI (atmF D G.vars) G.atoms k bs) ∧ Hid (Grows [bg] w1 wr) ∧ Hid (RowAt wr bg 35 (patL (.slice aa k ac) (.slice none 0 0) (.slice none 0 0) P0)) ∧ Hid (wr.ownsRow w1.heap.size 88 7 (.slice aa k ac) k (bs.flatMap atCells)))
 case atStart=>exact ⟨0,[],none,0,Nat.zero_le _,rfl,rfl,hid (PreI.start _ _),hid (Grows.refl _ _),HG,hid (World.ownsRow_nil _ _ _ _)⟩
 case round =>
  obtain ⟨k,bs,aa,ac,hk,hg,rfl,HI,HGR,HR,HO⟩:=hrel
  have Hg:=hid hg
  clear hg
  by_cases hlt:k < G.atoms.length
  ·obtain ⟨b,o,rfl,c0,c1,c2,c3,c4,c5⟩:=(HA.out wr HGR.out).at_ hlt
   have HBO:=hid (fun (W:World) (hW:Grows [bg] w1 W)=>HC.out W hW G.atoms[k])
   have HLEN:=hid HI.out.2
   have HMEM:=hid HI.out.mem
   have HSM:=hid (fun b h=>HI.out.some hlt (b:=b) h)
   have HNO:=hid (fun h=>HI.out.none hlt h)
   have HKL:=hid (show k ≤ G.atoms.length by omega)
   have hbl:=cell_lt c0
   generalize hAT:G.atoms[k] = x at *
   clear hAT HI
   obtain ⟨kd,nn,⟨a1,a2⟩,⟨b1,b2⟩⟩:=x
   dsimp only at c0 c1 c2 c3 c4 c5
   unfold bndV bndCells at HBO
   dsimp only at HBO
   obtain ⟨r,hr⟩:∃ r,atmF D G.vars ⟨kd,nn,⟨a1,a2⟩,⟨b1,b2⟩⟩ = r:=⟨_,rfl⟩
   rw [hr] at HBO HSM HNO
   clear hr
   have HAX:=hid (Ext.alloc wr (.cells #[.int .i64 kd,.int .i64 nn,.int .i64 a1,.int .i64 a2,.int .i64 b1,.int .i64 b2] 75))
   have HAB:=hid (RowAt.new wr 75 [.int .i64 kd,.int .i64 nn,.int .i64 a1,.int .i64 a2,.int .i64 b1,.int .i64 b2])
   have hk1:k ≤ 100000:=by have:=HFW.out;omega
   go_upto_region 3 with fail
   replace HAB:Hid (RowAt (wr.alloc (.cells #[.int .i64 kd,.int .i64 nn,.int .i64 a1,.int .i64 a2,.int .i64 b1,.int .i64 b2] 75)) wr.heap.size 75 [.int .i64 kd,.int .i64 nn,.int .i64 a1,.int .i64 a2,.int .i64 b1,.int .i64 b2]):=HAB
   generalize wr.alloc (.cells #[.int .i64 kd,.int .i64 nn,.int .i64 a1,.int .i64 a2,.int .i64 b1,.int .i64 b2] 75) = wb at *
   obtain ⟨t,ht⟩:∃ t,wr.heap.size = t:=⟨_,rfl⟩
   rw [ht] at HAB
   simp only [ht]
   clear ht c0 c1 c2 c3 c4 c5 hbl
   have HGR2:=hid (HGR.out.trans (Grows.ext HAX.out))
   have HR2:=hid (HR.out.ext HAX.out)
   have HO2:=hid (own_ext HO.out HAX.out)
   clear HR HO HGR
   have HFW2:=hid hk1
   clear hk1
   refine wp_region_inv [12,13,14,15,16,17,18,19] _ (fun i=>([[],[0],[],[],[2,3],[4],[1,5],[],[6,7]]:List (List Nat)).getD i []) (fun S us W=>∃ z:Nat,∃ v':Value,PlS [some (.pointer (some ⟨bg,0,none⟩)),some (.slice (aa) k ac),some (.agg (nmL vs m av).toArray),some (.agg #[.int .i64 kd,.int .i64 nn,.int .i64 a1,.int .i64 a2,.int .i64 b1,.int .i64 b2]),r.map atV,some (.slice (some ⟨z,0,none⟩) 1 1),some (v'),some (.pointer (some ⟨bg,0,none⟩))] S us ∧ (fun S W=>Grows [bg] w1 W ∧ RowAt W t 75 [.int .i64 kd,.int .i64 nn,.int .i64 a1,.int .i64 a2,.int .i64 b1,.int .i64 b2] ∧ RowAt W bg 35 (if S 8 = true then patL v' (.slice none 0 0) (.slice none 0 0) P0 else patL (.slice aa k ac) (.slice none 0 0) (.slice none 0 0) P0) ∧ (S 6 = false → W.ownsRow w1.heap.size 88 7 (.slice aa k ac) k (bs.flatMap atCells)) ∧ (S 5 = true → S 6 = false → RowAt W z 88 (atCells (r.getD zAt)) ∧ w1.heap.size ≤ z ∧ (Value.slice aa k ac).ownBlock ≠ some z) ∧ (S 6 = true → W.ownsRow w1.heap.size 88 7 v' (k + 1) ((bs ++ [r.getD zAt]).flatMap atCells)) ∧ (S 8 = true → S 6 = true) ∧ (S 6 = true → S 1 = true ∧ S 5 = true) ∧ (S 5 = true → S 4 = true)) S W) hmo (by kernel_rfl) (by kernel_rfl) (puts_self _ _) ⟨0,undef,PlS.start rfl,⟨HGR2.out.trans (Grows.ext (Ext.drewN wb 1)),HAB.out.ext (Ext.drewN wb 1),by rw [if_neg (by decide)];exact HR2.out.ext (Ext.drewN wb 1),fun _=>own_ext HO2.out (Ext.drewN wb 1),nofun,nofun,nofun,nofun,nofun⟩⟩ ?_ ?_
   ·refine ⟨?_,?_,?_,?_,?_,?_,?_,?_,?_,trivial⟩
    all_goals
     rintro S us wq hd hn ⟨z,v',hF,hI⟩ K hK
     obtain ⟨u0,u1,u2,u3,u4,u5,u6,u7,rfl⟩:=len8 hF.len rfl
     have HK:=hid (fun us' w'' z' v'' h hi=>hK us' w'' ⟨z',v'',h,hi⟩)
     have HF:=hid hF
     have HN:=hid hn
     have HD:=hid hd
     clear hK hF hn hd
     simp only [puts,Act.put,qA,qB,qC,List.set_nil]
    ·have hk:=HK.out _ wq z v' (HF.out.put (i:=0) (v:=.pointer (some ⟨bg,0,none⟩)) rfl) hI
     simp only [puts,Act.put,qA,qB,qC,List.set_nil] at hk
     go_simp
     exact hk
    ·obtain rfl:=HF.out.got (HD.out 0 (by decide)) (i:=0) rfl rfl
     have h6:S 6 = false:=by cases h:S 6;rfl;exact absurd (hI.2.2.2.2.2.2.2.1 h).1 (by rw [HN.out];decide)
     have h8:S 8 = false:=by cases h:S 8;rfl;exact absurd (hI.2.2.2.2.2.2.1 h) (by rw [h6];decide)
     have hrow:=hI.2.2.1
     rw [h8,if_neg (by decide)] at hrow
     have c1:=hrow.cell (i:=0) rfl
     have hk:=HK.out _ wq z v' (HF.out.put (i:=1) (v:=.slice (aa) k ac) rfl) ⟨hI.1,hI.2.1,hI.2.2.1,hI.2.2.2.1,hI.2.2.2.2.1,hI.2.2.2.2.2.1,hI.2.2.2.2.2.2.1,fun h=>⟨rfl,(hI.2.2.2.2.2.2.2.1 h).2⟩,hI.2.2.2.2.2.2.2.2⟩
     simp only [puts,Act.put,qA,qB,qC,List.set_nil] at hk
     go_simp
     exact hk
    ·have hk:=HK.out _ wq z v' (HF.out.put (i:=2) (v:=.agg (nmL vs m av).toArray) rfl) hI
     simp only [puts,Act.put,qA,qB,qC,List.set_nil] at hk
     rw [if_pos (show Region.wanted _ _ = true from rfl)]
     refine wp_load_mid _ _ rfl bn 0 rfl _ _ ((HNM.out wq hI.1).whole) Tryz.underlying98 rfl (by kernel_rfl) ?_
     exact hk
    ·have hk:=HK.out _ wq z v' (HF.out.put (i:=3) (v:=.agg #[.int .i64 kd,.int .i64 nn,.int .i64 a1,.int .i64 a2,.int .i64 b1,.int .i64 b2]) rfl) hI
     simp only [puts,Act.put,qA,qB,qC,List.set_nil] at hk
     rw [if_pos (show Region.wanted _ _ = true from rfl)]
     refine wp_load_mid _ _ rfl t 0 rfl _ _ (hI.2.1.whole) Tryz.underlying75 rfl (by kernel_rfl) ?_
     exact hk
    ·obtain rfl:=HF.out.got (HD.out 2 (by decide)) (i:=2) rfl rfl
     obtain rfl:=HF.out.got (HD.out 3 (by decide)) (i:=3) rfl rfl
     go_simp
     refine (HBO.out wq hI.1).mono ?_
     rintro e w2 ⟨rfl,hx2⟩
     rcases hr:r with _ | y
     ·unfold outE unknE
      have h4:S 5 = false:=by cases h:S 5;rfl;exact absurd (hI.2.2.2.2.2.2.2.2 h) (by rw [HN.out];decide)
      have h6:S 6 = false:=by cases h:S 6;rfl;exact absurd (hI.2.2.2.2.2.2.2.1 h).2 (by rw [h4];decide)
      have h8:S 8 = false:=by cases h:S 8;rfl;exact absurd (hI.2.2.2.2.2.2.1 h) (by rw [h6];decide)
      have hrow:=hI.2.2.1
      rw [h8,if_neg (by decide)] at hrow
      have HZ:=hid (HNO.out hr)
      have HBR:=hid (show BackRow D G.vars G.atoms w1 w2 bg P0 bs [] [] from ⟨⟨_,_,_,hrow.ext hx2,(by rw [HLEN.out];exact own_ext (hI.2.2.2.1 h6) hx2),World.ownsRow_nil _ _ _ _,World.ownsRow_nil _ _ _ _⟩,hI.1.trans (Grows.ext hx2),HMEM.out,(by rw [HLEN.out];exact HKL.out)⟩)
      clear hI hrow hx2
      go_wp2_with fail
      exact ⟨rfl,bs,[],[],HBR.out,.inr ⟨rfl,.inl (by show (preF (atmF D G.vars) G.atoms).2 = false;rw [HZ.out])⟩⟩
     ·have hk:=HK.out _ w2 z v' (HF.out.put (i:=4) (v:=atV y) (by rw [hr];rfl)) ⟨hI.1.trans (Grows.ext hx2),hI.2.1.ext hx2,hI.2.2.1.ext hx2,fun h=>own_ext (hI.2.2.2.1 h) hx2,fun h h'=>by obtain ⟨q1,q2,q3⟩:=hI.2.2.2.2.1 h h';exact ⟨q1.ext hx2,q2,q3⟩,fun h=>own_ext (hI.2.2.2.2.2.1 h) hx2,hI.2.2.2.2.2.2.1,hI.2.2.2.2.2.2.2.1,fun _=>rfl⟩
      simp only [puts,Act.put,qA,qB,qC,List.set_nil] at hk
      unfold outE
      dsimp only
      go_simp
      exact hk
    ·obtain ⟨x4,hx4,rfl⟩:=HF.out.map (HD.out 4 (by decide)) (i:=4) rfl rfl
     subst hx4
     have h6:S 6 = false:=by cases h:S 6;rfl;exact absurd (hI.2.2.2.2.2.2.2.1 h).2 (by rw [HN.out];decide)
     have hx2:=Ext.alloc wq (.cells (atCells x4).toArray 88)
     have hr2:=RowAt.new wq 88 (atCells x4)
     have hk:=HK.out _ _ wq.heap.size v' (HF.out.new (i:=5) (.slice (some ⟨wq.heap.size,0,none⟩) 1 1) HN.out (by show 5 < 8;decide)) ⟨hI.1.trans (Grows.ext hx2),hI.2.1.ext hx2,hI.2.2.1.ext hx2,fun h=>own_ext (hI.2.2.2.1 h) hx2,fun _ _=>⟨hr2,hI.1.size,fun e=>by have:=own_lt (hI.2.2.2.1 h6) e;omega⟩,fun h=>own_ext (hI.2.2.2.2.2.1 h) hx2,hI.2.2.2.2.2.2.1,fun h=>⟨(hI.2.2.2.2.2.2.2.1 h).1,rfl⟩,fun _=>HD.out 4 (by decide)⟩
     simp only [puts,Act.put,qA,qB,qC,List.set_nil] at hk
     unfold atV at *
     unfold atCells at hk
     go_simp
     exact hk
    ·obtain rfl:=HF.out.got (HD.out 1 (by decide)) (i:=1) rfl rfl
     obtain rfl:=HF.out.got (HD.out 5 (by decide)) (i:=5) rfl rfl
     have h5:=HD.out 5 (by decide)
     have h1:=HD.out 1 (by decide)
     have h8:S 8 = false:=by cases h:S 8;rfl;exact absurd (hI.2.2.2.2.2.2.1 h) (by rw [HN.out];decide)
     have ho:=hI.2.2.2.1 HN.out
     obtain ⟨hz,hzl,hzn⟩:=hI.2.2.2.2.1 h5 HN.out
     have hrow:=hI.2.2.1
     rw [h8,if_neg (by decide)] at hrow
     rw [if_pos (show Region.wanted _ _ = true from rfl)]
     refine wp_append_sl wq _ _ 33 rfl elAtR rfl ho rfl (hz.sl 1 1 (Nat.le_refl _) (by unfold maxLen;omega)) rfl (atCells_oneR _) (by have:=HFW2.out;omega) (by have:=HFW2.out;unfold maxLen;omega) hI.1.size ?_
     intro u' w' ho' hb' hg' _
     have hne1:=own_ne_row ho hI.2.1 (by decide)
     have hne2:=own_ne_row ho hrow (by decide)
     have hk:=HK.out _ w' z u' (HF.out.new (i:=6) u' HN.out (by show 6 < 8;decide)) ⟨hI.1.below hb',hI.2.1.kept hg' (fun e=>hne1 _ e rfl),(by rw [show updB S 6 8 = S 8 from rfl,h8,if_neg (by decide)];exact hrow.kept hg' (fun e=>hne2 _ e rfl)),fun h=>(by cases h),fun _ h=>(by cases h),fun _=>(by rw [flat_snocB];exact ho'),fun _=>rfl,fun _=>⟨h1,h5⟩,hI.2.2.2.2.2.2.2.2⟩
     simp only [puts,Act.put,qA,qB,qC,List.set_nil] at hk
     exact hk
    ·have hk:=HK.out _ wq z v' (HF.out.put (i:=7) (v:=.pointer (some ⟨bg,0,none⟩)) rfl) hI
     simp only [puts,Act.put,qA,qB,qC,List.set_nil] at hk
     go_simp
     exact hk
    ·obtain rfl:=HF.out.got (HD.out 6 (by decide)) (i:=6) rfl rfl
     obtain rfl:=HF.out.got (HD.out 7 (by decide)) (i:=7) rfl rfl
     have h6:=HD.out 6 (by decide)
     have ho:=hI.2.2.2.2.2.1 h6
     have hrow:=hI.2.2.1
     rw [HN.out,if_neg (by decide)] at hrow
     obtain ⟨a2,c2,rfl⟩:=own_vw ho
     have cc:=hrow.cell (i:=0) rfl
     have ff:=hrow.frozen 0
     have hg2:=grown_set wq bg 0 (.slice a2 (k + 1) c2)
     have hk:=HK.out _ _ z (.slice a2 (k + 1) c2) (HF.out.out (by show 8 ≤ 8;decide)) ⟨hI.1.trans (Grows.set (by simp) 0 (.slice a2 (k + 1) c2)),hI.2.1.kept hg2 (fun e=>row_ne hrow hI.2.1 (by decide) (Option.some.inj e)),(by rw [show updB S 8 8 = true from rfl,if_pos rfl];exact hrow.set 0 _),fun h=>(by rw [show updB S 8 6 = S 6 from rfl,h6] at h;cases h),fun _ h=>(by rw [show updB S 8 6 = S 6 from rfl,h6] at h;cases h),fun _=>own_turn ho hrow (by decide) hg2,fun _=>h6,hI.2.2.2.2.2.2.2.1,hI.2.2.2.2.2.2.2.2⟩
     simp only [puts,Act.put,qA,qB,qC,List.set_nil] at hk
     go_simp
     exact hk
   ·rintro S us wq hS ⟨z,v',hF,hI⟩
    obtain ⟨u0,u1,u2,u3,u4,u5,u6,u7,rfl⟩:=len8 hF.len rfl
    obtain rfl:=hF.got (hS 0 (by decide)) (i:=0) rfl rfl
    obtain rfl:=hF.got (hS 1 (by decide)) (i:=1) rfl rfl
    obtain rfl:=hF.got (hS 2 (by decide)) (i:=2) rfl rfl
    obtain rfl:=hF.got (hS 3 (by decide)) (i:=3) rfl rfl
    obtain ⟨x4,hx4,rfl⟩:=hF.map (hS 4 (by decide)) (i:=4) rfl rfl
    obtain rfl:=hF.got (hS 5 (by decide)) (i:=5) rfl rfl
    obtain rfl:=hF.got (hS 6 (by decide)) (i:=6) rfl rfl
    obtain rfl:=hF.got (hS 7 (by decide)) (i:=7) rfl rfl
    have HS:=hid hS
    clear hF hS
    simp only [puts,Act.put,qA,qB,qC,List.set_nil]
    subst hx4
    have hrow:=hI.2.2.1
    rw [HS.out 8 (by decide),if_pos rfl] at hrow
    have ho:=hI.2.2.2.2.2.1 (HS.out 6 (by decide))
    obtain ⟨a2,c2,rfl⟩:=own_vw ho
    have HRR:=hid hrow
    have HOO:=hid ho
    have HGG:=hid hI.1
    have HPI:=hid (HSM.out x4 rfl)
    clear hI hrow ho HS
    have hk1:k ≤ 100000:=HFW2.out
    go_wp2_with fail
    go_roundg (G.atoms.length - (k + 1))
    case measure=>have:=Hg.out;omega
    case rel=>exact ⟨k + 1,bs ++ [x4],a2,c2,by omega,rfl,by first | rfl | go_num,HPI,HGG,HRR,HOO⟩
  ·have he:k = G.atoms.length:=by omega
   subst he
   have HZ:=hid HI.out.done
   have HLN:=hid HI.out.2
   have HMEM:=hid HI.out.mem
   go_upto_region 5 with fail
   refine wp_region_inv [21,22,23,24,25,26,27,28,29,9999,30] _ (fun i=>([[],[],[1],[0,2],[],[],[5],[4,6],[],[3,8],[],[7,10]]:List (List Nat)).getD i []) (fun S us W=>∃ s1:Value,∃ s2:Value,PlS [some (.agg (nmL vs m av).toArray),some (.pointer (some ⟨bp,2,none⟩)),some (.slice ra G.ret.length rc),some (s1),some (.agg (nmL vs m av).toArray),some (.pointer (some ⟨bp,8,none⟩)),some ((.slice ha' G.hint.length hc)),some (s2),some (.pointer (some ⟨bg,1,none⟩)),some (undef),some (.pointer (some ⟨bg,7,none⟩))] S us ∧ (fun S W=>Grows [bg] w1 W ∧ RowAt W bg 35 (patL (.slice aa G.atoms.length ac) (if S 9 = true then s1 else .slice none 0 0) (if S 11 = true then s2 else .slice none 0 0) P0) ∧ W.ownsRow w1.heap.size 88 7 (.slice aa G.atoms.length ac) G.atoms.length (bs.flatMap atCells) ∧ (S 3 = true → ∃ T,r1 = some T ∧ W.ownsRow w1.heap.size 9 1 s1 T.length (T.map Value.string)) ∧ (S 7 = true → ∃ T,r2 = some T ∧ W.ownsRow w1.heap.size 9 1 s2 T.length (T.map Value.string)) ∧ (S 9 = true → S 3 = true) ∧ (S 11 = true → S 7 = true)) S W) hmo (by kernel_rfl) (by kernel_rfl) (puts_self _ _) ⟨undef,undef,PlS.start rfl,⟨HGR.out.trans (Grows.ext (Ext.drewN _ 1)),by simp only [Bool.false_eq_true,if_false];exact HR.out.ext (Ext.drewN _ 1),own_ext HO.out (Ext.drewN _ 1),nofun,nofun,nofun,nofun⟩⟩ ?_ ?_
   ·refine ⟨?_,?_,?_,?_,?_,?_,?_,?_,?_,?_,?_,?_,trivial⟩
    all_goals
     rintro S us wq hd hn ⟨s1,s2,hF,hI⟩ K hK
     obtain ⟨u0,u1,u2,u3,u4,u5,u6,u7,u8,u9,u10,rfl⟩:=len11 hF.len rfl
     have HK:=hid (fun us' w'' s1' s2' h hi=>hK us' w'' ⟨s1',s2',h,hi⟩)
     have HF:=hid hF
     have HN:=hid hn
     have HD:=hid hd
     clear hK hF hn hd
     simp only [puts,Act.put,qA,qB,qC,List.set_nil]
    ·have hk:=HK.out _ wq s1 s2 (HF.out.put (i:=0) (v:=.agg (nmL vs m av).toArray) rfl) hI
     simp only [puts,Act.put,qA,qB,qC,List.set_nil] at hk
     rw [if_pos (show Region.wanted _ _ = true from rfl)]
     refine wp_load_mid _ _ rfl bn 0 rfl _ _ ((HNM.out wq hI.1).whole) Tryz.underlying98 rfl (by kernel_rfl) ?_
     exact hk
    ·have hk:=HK.out _ wq s1 s2 (HF.out.put (i:=1) (v:=.pointer (some ⟨bp,2,none⟩)) rfl) hI
     simp only [puts,Act.put,qA,qB,qC,List.set_nil] at hk
     go_simp
     exact hk
    ·obtain rfl:=HF.out.got (HD.out 1 (by decide)) (i:=1) rfl rfl
     have c:=(HP.out wq hI.1).cell (i:=2) rfl
     have hk:=HK.out _ wq s1 s2 (HF.out.put (i:=2) (v:=.slice ra G.ret.length rc) rfl) hI
     simp only [puts,Act.put,qA,qB,qC,List.set_nil] at hk
     go_simp
     exact hk
    ·obtain rfl:=HF.out.got (HD.out 0 (by decide)) (i:=0) rfl rfl
     obtain rfl:=HF.out.got (HD.out 2 (by decide)) (i:=2) rfl rfl
     go_simp
     refine (HT1.out wq hI.1).mono ?_
     rintro e w2 ⟨hx2,hq⟩
     have hn:=HN.out
     have hz:S 9 = false:=by cases h:S 9;rfl;exact absurd (hI.2.2.2.2.2.1 h) (by rw [hn];decide)
     have hgr:=hI.2.1.ext hx2
     rw [hz] at hgr
     simp only [Bool.false_eq_true,if_false] at hgr
     rcases hr:r1 with _ | T
     ·rw [hr] at hq
      dsimp only at hq
      subst hq
      have HBR:=hid (show BackRow D G.vars G.atoms w1 w2 bg P0 bs [] (if S 11 = true then r2.getD [] else []) from ⟨⟨_,_,_,hgr,(by rw [HLN.out];exact own_ext hI.2.2.1 hx2),World.ownsRow_nil _ _ _ _,(by cases h:S 11 with | false=>simp only [Bool.false_eq_true,if_false];exact World.ownsRow_nil _ _ _ _ | true=>simp only [if_true];obtain ⟨T,e,o⟩:=hI.2.2.2.2.1 (hI.2.2.2.2.2.2 h);rw [e];exact own_ext o hx2)⟩,hI.1.trans (Grows.ext hx2),HMEM.out,(by rw [HLN.out];exact Nat.le_refl _)⟩)
      clear hI hgr hx2
      unfold unknE
      go_wp2_with fail
      exact ⟨rfl,_,_,_,HBR.out,.inr ⟨rfl,.inr (.inl hr)⟩⟩
     ·rw [hr] at hq
      dsimp only at hq
      obtain ⟨b1,b2,rfl,ho⟩:=hq
      have hk:=HK.out _ w2 (.slice b1 T.length b2) s2 (HF.out.new (i:=3) (.slice b1 T.length b2) HN.out (by show 3 < 11;decide)) ⟨hI.1.trans (Grows.ext hx2),(by rw [show updB S 3 9 = S 9 from rfl,show updB S 3 11 = S 11 from rfl,hz];simp only [Bool.false_eq_true,if_false];exact hgr),own_ext hI.2.2.1 hx2,fun _=>⟨T,hr,own_base ho hI.1.size⟩,fun h=>(by obtain ⟨T,e,o⟩:=hI.2.2.2.2.1 h;exact ⟨T,e,own_ext o hx2⟩),fun _=>rfl,hI.2.2.2.2.2.2⟩
      simp only [puts,Act.put,qA,qB,qC,List.set_nil] at hk
      go_simp
      exact hk
    ·have hk:=HK.out _ wq s1 s2 (HF.out.put (i:=4) (v:=.agg (nmL vs m av).toArray) rfl) hI
     simp only [puts,Act.put,qA,qB,qC,List.set_nil] at hk
     rw [if_pos (show Region.wanted _ _ = true from rfl)]
     refine wp_load_mid _ _ rfl bn 0 rfl _ _ ((HNM.out wq hI.1).whole) Tryz.underlying98 rfl (by kernel_rfl) ?_
     exact hk
    ·have hk:=HK.out _ wq s1 s2 (HF.out.put (i:=5) (v:=.pointer (some ⟨bp,8,none⟩)) rfl) hI
     simp only [puts,Act.put,qA,qB,qC,List.set_nil] at hk
     go_simp
     exact hk
    ·obtain rfl:=HF.out.got (HD.out 5 (by decide)) (i:=5) rfl rfl
     have c:=(HP.out wq hI.1).cell (i:=8) rfl
     have hk:=HK.out _ wq s1 s2 (HF.out.put (i:=6) (v:=(.slice ha' G.hint.length hc)) rfl) hI
     simp only [puts,Act.put,qA,qB,qC,List.set_nil] at hk
     go_simp
     exact hk
    ·obtain rfl:=HF.out.got (HD.out 4 (by decide)) (i:=4) rfl rfl
     obtain rfl:=HF.out.got (HD.out 6 (by decide)) (i:=6) rfl rfl
     go_simp
     refine (HT2.out wq hI.1).mono ?_
     rintro e w2 ⟨hx2,hq⟩
     have hn:=HN.out
     have hz:S 11 = false:=by cases h:S 11;rfl;exact absurd (hI.2.2.2.2.2.2 h) (by rw [hn];decide)
     have hgr:=hI.2.1.ext hx2
     rw [hz] at hgr
     simp only [Bool.false_eq_true,if_false] at hgr
     rcases hr:r2 with _ | T
     ·rw [hr] at hq
      dsimp only at hq
      subst hq
      have HBR:=hid (show BackRow D G.vars G.atoms w1 w2 bg P0 bs (if S 9 = true then r1.getD [] else []) [] from ⟨⟨_,_,_,hgr,(by rw [HLN.out];exact own_ext hI.2.2.1 hx2),(by cases h:S 9 with | false=>simp only [Bool.false_eq_true,if_false];exact World.ownsRow_nil _ _ _ _ | true=>simp only [if_true];obtain ⟨T,e,o⟩:=hI.2.2.2.1 (hI.2.2.2.2.2.1 h);rw [e];exact own_ext o hx2),World.ownsRow_nil _ _ _ _⟩,hI.1.trans (Grows.ext hx2),HMEM.out,(by rw [HLN.out];exact Nat.le_refl _)⟩)
      clear hI hgr hx2
      unfold unknE
      go_wp2_with fail
      exact ⟨rfl,_,_,_,HBR.out,.inr ⟨rfl,.inr (.inr hr)⟩⟩
     ·rw [hr] at hq
      dsimp only at hq
      obtain ⟨b1,b2,rfl,ho⟩:=hq
      have hk:=HK.out _ w2 s1 (.slice b1 T.length b2) (HF.out.new (i:=7) (.slice b1 T.length b2) HN.out (by show 7 < 11;decide)) ⟨hI.1.trans (Grows.ext hx2),(by rw [show updB S 7 9 = S 9 from rfl,show updB S 7 11 = S 11 from rfl,hz];simp only [Bool.false_eq_true,if_false];exact hgr),own_ext hI.2.2.1 hx2,fun h=>(by obtain ⟨T,e,o⟩:=hI.2.2.2.1 h;exact ⟨T,e,own_ext o hx2⟩),fun _=>⟨T,hr,own_base ho hI.1.size⟩,hI.2.2.2.2.2.1,fun _=>rfl⟩
      simp only [puts,Act.put,qA,qB,qC,List.set_nil] at hk
      go_simp
      exact hk
    ·have hk:=HK.out _ wq s1 s2 (HF.out.put (i:=8) (v:=.pointer (some ⟨bg,1,none⟩)) rfl) hI
     simp only [puts,Act.put,qA,qB,qC,List.set_nil] at hk
     go_simp
     exact hk
    ·obtain rfl:=HF.out.got (HD.out 3 (by decide)) (i:=3) rfl rfl
     obtain rfl:=HF.out.got (HD.out 8 (by decide)) (i:=8) rfl rfl
     obtain ⟨T,hT,ho⟩:=hI.2.2.2.1 (HD.out 3 (by decide))
     obtain ⟨b1,b2,rfl⟩:=own_vw ho
     have hrow:=hI.2.1
     have cc:=hrow.cell (i:=1) rfl
     have ff:=hrow.frozen 1
     have hgs:=grown_set wq bg 1 (.slice b1 T.length b2)
     have hk:=HK.out _ _ (.slice b1 T.length b2) s2 (HF.out.put (i:=9) (v:=undef) rfl) ⟨hI.1.trans (Grows.set (by simp) _ _),(by rw [show updB S 9 9 = true from rfl,show updB S 9 11 = S 11 from rfl,if_pos rfl];exact hrow.set 1 _),own_turn hI.2.2.1 hrow (by decide) hgs,fun h=>(by obtain ⟨T,e,o⟩:=hI.2.2.2.1 h;exact ⟨T,e,own_turn o hrow (by decide) hgs⟩),fun h=>(by obtain ⟨T,e,o⟩:=hI.2.2.2.2.1 h;exact ⟨T,e,own_turn o hrow (by decide) hgs⟩),fun _=>HD.out 3 (by decide),hI.2.2.2.2.2.2⟩
     simp only [puts,Act.put,qA,qB,qC,List.set_nil] at hk
     go_simp
     exact hk
    ·have hk:=HK.out _ wq s1 s2 (HF.out.put (i:=10) (v:=.pointer (some ⟨bg,7,none⟩)) rfl) hI
     simp only [puts,Act.put,qA,qB,qC,List.set_nil] at hk
     go_simp
     exact hk
    ·obtain rfl:=HF.out.got (HD.out 7 (by decide)) (i:=7) rfl rfl
     obtain rfl:=HF.out.got (HD.out 10 (by decide)) (i:=10) rfl rfl
     obtain ⟨T,hT,ho⟩:=hI.2.2.2.2.1 (HD.out 7 (by decide))
     obtain ⟨b1,b2,rfl⟩:=own_vw ho
     have hrow:=hI.2.1
     have cc:=hrow.cell (i:=7) rfl
     have ff:=hrow.frozen 7
     have hgs:=grown_set wq bg 7 (.slice b1 T.length b2)
     have hk:=HK.out _ _ s1 (.slice b1 T.length b2) (HF.out.out (by show 11 ≤ 11;decide)) ⟨hI.1.trans (Grows.set (by simp) _ _),(by rw [show updB S 11 9 = S 9 from rfl,show updB S 11 11 = true from rfl,if_pos rfl];exact hrow.set 7 _),own_turn hI.2.2.1 hrow (by decide) hgs,fun h=>(by obtain ⟨T,e,o⟩:=hI.2.2.2.1 h;exact ⟨T,e,own_turn o hrow (by decide) hgs⟩),fun h=>(by obtain ⟨T,e,o⟩:=hI.2.2.2.2.1 h;exact ⟨T,e,own_turn o hrow (by decide) hgs⟩),hI.2.2.2.2.2.1,fun _=>HD.out 7 (by decide)⟩
     simp only [puts,Act.put,qA,qB,qC,List.set_nil] at hk
     go_simp
     exact hk
   ·rintro S us wq hS ⟨s1,s2,hF,hI⟩
    obtain ⟨u0,u1,u2,u3,u4,u5,u6,u7,u8,u9,u10,rfl⟩:=len11 hF.len rfl
    obtain rfl:=hF.got (hS 0 (by decide)) (i:=0) rfl rfl
    obtain rfl:=hF.got (hS 1 (by decide)) (i:=1) rfl rfl
    obtain rfl:=hF.got (hS 2 (by decide)) (i:=2) rfl rfl
    obtain rfl:=hF.got (hS 3 (by decide)) (i:=3) rfl rfl
    obtain rfl:=hF.got (hS 4 (by decide)) (i:=4) rfl rfl
    obtain rfl:=hF.got (hS 5 (by decide)) (i:=5) rfl rfl
    obtain rfl:=hF.got (hS 6 (by decide)) (i:=6) rfl rfl
    obtain rfl:=hF.got (hS 7 (by decide)) (i:=7) rfl rfl
    obtain rfl:=hF.got (hS 8 (by decide)) (i:=8) rfl rfl
    obtain rfl:=hF.got (hS 9 (by decide)) (i:=9) rfl rfl
    obtain rfl:=hF.got (hS 10 (by decide)) (i:=10) rfl rfl
    have HS:=hid hS
    clear hF hS
    simp only [puts,Act.put,qA,qB,qC,List.set_nil]
    obtain ⟨hg,hr,ho,h1,h2,_,_⟩:=hI
    rw [HS.out 9 (by decide),HS.out 11 (by decide),if_pos rfl,if_pos rfl] at hr
    obtain ⟨T1,e1,o1⟩:=h1 (HS.out 3 (by decide))
    obtain ⟨T2,e2,o2⟩:=h2 (HS.out 7 (by decide))
    have HE1:=hid e1
    have HE2:=hid e2
    have HBR:=hid (show BackRow D G.vars G.atoms w1 wq bg P0 bs T1 T2 from ⟨⟨_,_,_,hr,(by rw [HLN.out];exact ho),o1,o2⟩,hg,HMEM.out,(by rw [HLN.out];exact Nat.le_refl _)⟩)
    clear hg hr ho h1 h2 e1 e2 o1 o2 HS
    go_wp2_with fail
    go_end0
    exact ⟨bs,T1,T2,HBR.out,.inl ⟨rfl,HZ.out,HE1.out,HE2.out⟩⟩
end

end Go.Proofs.YtkmbnghghbfkdaaGreat
