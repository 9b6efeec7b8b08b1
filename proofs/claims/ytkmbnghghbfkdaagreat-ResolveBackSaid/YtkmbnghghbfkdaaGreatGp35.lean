/- Which goals may be. -/
import Derived.Test.YtkmbnghghbfkdaaGreatGp34
import Derived.Shelf.SlicesE.DeleteFunc
import Derived.Lib.RowBridge
set_option linter.unusedSimpArgs false
set_option linter.unusedVariables false
set_option maxHeartbeats 2000000
set_option maxRecDepth 100000
namespace Go.Proofs.YtkmbnghghbfkdaaGreat
open Go.Lib (hid)

section
open Go.RowKit Go.Shelf Go.Sort
attribute [local go_sem] Oper.semAt_some wide_fn wide_depth
def CkGQ (w:World) (D:Dic) (G:Gol) (e:Ending) (w':World):Prop:=∃ P c,e = .returned (.int .i64 c) ∧ BackR D G P c ∧ Ext w w'
set_option maxHeartbeats 4000000 in
theorem checkG_any (Hd:Heads) (D:Dic) (G:Gol) (gv:Value) (w:World) (hV:DicV w (hv Hd) D) (hS:DicS D) (hG:GolAt w gv G) (hf:G.Fits) :
 Calls Tryz.prog 20 #[dv (hv Hd),gv] w (CkGQ w D G):=by
 have HBK:=hid (fun w' (hx:Ext w w')=>back_any Hd D G gv w' (hV.ext hx) hS (hG.ext hx) hf)
 obtain ⟨vv,av,rv,hv',rfl,gV,gA,gR,gH⟩:=hG
 have hbx:=boxes2 w (dcells (hv Hd)) 28 (golC vv av rv hv' G) 39
 have HX:=hid hbx.1
 have H0:=hid hbx.2.1
 have H1:=hid hbx.2.2
 clear hbx gV gA gR gH hV hS hf
 unfold dv golV at *
 go_enter Tryz.func20,Tryz.ntmps20
 go_upto_region 1 with fail
 generalize (w.alloc (.cells (dcells (hv Hd)).toArray 28)).alloc (.cells (golC vv av rv hv' G).toArray 39) = w1 at *
 obtain ⟨y0,hy0⟩:∃ x,w.heap.size = x:=⟨_,rfl⟩
 obtain ⟨y1,hy1⟩:∃ x,y0 + 1 = x:=⟨_,rfl⟩
 rw [hy0] at H0 H1
 rw [hy1] at H1
 simp only [hy0,hy1]
 clear hy0 hy1
 apply wp_region_lit
 refine plain_load rfl _ _ rfl y0 rfl _ _ (H0.out) Tryz.underlying28 rfl (by kernel_rfl) ?_
 go_simp
 refine plain_load rfl _ _ rfl y1 rfl _ _ (H1.out) Tryz.underlying39 rfl (by kernel_rfl) ?_
 go_simp
 refine wpList_plain rfl fun K1 hK1=>?_
 go_simp
 refine (HBK.out w1 HX.out).mono ?_;rintro e w2 ⟨pv,P,c,rfl,hr,⟨pa,pr,ph,rfl,hp1,hp2,hp3⟩,hx2⟩;obtain ⟨pa1,pa2,rfl⟩:=own_vw hp1;obtain ⟨pr1,pr2,rfl⟩:=own_vw hp2;obtain ⟨ph1,ph2,rfl⟩:=own_vw hp3;clear hp1 hp2 hp3
 go_simp
 refine hK1 _ _ ?_
 clear hK1 K1
 unfold patV
 iterate 3 (refine wpList_plain rfl fun Y y'=>?_;go_simp;refine y' _ _ ?_;clear y' Y)
 have HX2:=hid (HX.out.trans hx2)
 have HR:=hid hr
 clear hx2 HX H0 H1 HBK hr
 (refine wpList_plain rfl fun Y y'=>?_;go_simp;refine y' _ _ ?_;clear y' Y)
 have hax:=Ext.alloc w2 (.cells #[.slice none 0 0,.slice none 0 0,.bool false,.bool false,.bool false,.int .i64 0,.int .i64 0,.slice none 0 0] 35)
 have har:RowAt (w2.alloc (.cells #[.slice none 0 0,.slice none 0 0,.bool false,.bool false,.bool false,.int .i64 0,.int .i64 0,.slice none 0 0] 35)) w2.heap.size 35 (#[.slice none 0 0,.slice none 0 0,.bool false,.bool false,.bool false,.int .i64 0,.int .i64 0,.slice none 0 0]).toList:=RowAt.new _ _ _
 refine plain_store rfl _ _ _ rfl w2.heap.size (patL (.slice pa1 P.atoms.length pa2) (.slice pr1 P.ret.length pr2) (.slice ph1 P.hint.length ph2) P) rfl rfl har (by kernel_rfl) rfl ((by simp [patL,Value.oneCell'])) ?_
 have hex:Ext w2 ((w2.alloc (.cells #[.slice none 0 0,.slice none 0 0,.bool false,.bool false,.bool false,.int .i64 0,.int .i64 0,.slice none 0 0] 35)).setRow w2.heap.size (patL (.slice pa1 P.atoms.length pa2) (.slice pr1 P.ret.length pr2) (.slice ph1 P.hint.length ph2) P).toArray):=below_setRow hax (Nat.le_refl _) _
 have HEw3:=hid hex
 have HRbp:=hid (har.setRow (patL (.slice pa1 P.atoms.length pa2) (.slice pr1 P.ret.length pr2) (.slice ph1 P.hint.length ph2) P))
 clear hax har hex
 go_simp
 generalize (w2.alloc (.cells #[.slice none 0 0,.slice none 0 0,.bool false,.bool false,.bool false,.int .i64 0,.int .i64 0,.slice none 0 0] 35)).setRow w2.heap.size (patL (.slice pa1 P.atoms.length pa2) (.slice pr1 P.ret.length pr2) (.slice ph1 P.hint.length ph2) P).toArray = w3 at *
 obtain ⟨bp,hsbp⟩:∃ x,w2.heap.size = x:=⟨_,rfl⟩
 rw [hsbp] at HRbp
 simp only [hsbp]
 have HSbp:=hid hsbp
 clear hsbp
 (refine wpList_plain rfl fun Y y'=>?_;go_simp;refine y' _ _ ?_;clear y' Y)
 apply wpList_nil
 go_wp2_with fail
 go_ret
 exact ⟨P,c,rfl,HR.out,HX2.out.trans HEw3.out⟩
end

/- The keys of rows of ids. -/
section
open Go.RowKit Go.Shelf Go.Sort
attribute [local go_sem] Oper.semAt_some wide_fn wide_depth
def TRows (B:Nat) (w:World) (v:Value) (xs:List (Value × List ByteArray)):Prop:=w.ownsRow B 22 1 v xs.length (xs.map Prod.fst) ∧ ∀ x ∈ xs,w.ownsRow B 9 1 x.1 x.2.length (x.2.map Value.string)
def keyF (T:List ByteArray) (n:Int):ByteArray:=T.getD n.toNat nilB
def InK (T:List ByteArray) (l:List Int):Prop:=∀ n ∈ l,n.toNat < T.length
inductive KeysR (D:Dic) (X:List (List Int)):List (List ByteArray) → Int → Prop
 | dict (h:¬ DicOK D):KeysR D X [] 160
 | arg (h:DicOK D) (hb:¬ ∀ l ∈ X,InK (D 0).1 l):KeysR D X [] 2
 | ok (h:DicOK D) (hb:∀ l ∈ X,InK (D 0).1 l):KeysR D X (X.map fun l=>l.map (keyF (D 0).1)) 0
def KeysQ (w:World) (D:Dic) (X:List (List Int)) (e:Ending) (w':World):Prop:=∃ v xs c,e = .returned (.tuple #[v,.int .i64 c]) ∧ KeysR D X (xs.map Prod.snd) c ∧ TRows w.heap.size w' v xs ∧ Ext w w'
theorem elRow:ElT Tryz.prog 62 22 (.slice none 0 0) 1 24:=⟨Tryz.underlying62,⟨_,rfl,by kernel_rfl,by kernel_rfl,by kernel_rfl⟩,rfl,by decide⟩
theorem TRows.none (B:Nat) (w:World):TRows B w (.slice Option.none 0 0) []:=⟨World.ownsRow_nil _ _ _ _,fun x hx=>by cases hx⟩
theorem TRows.ext {B:Nat} {w w':World} {v:Value} {xs:List (Value × List ByteArray)} (h:TRows B w v xs) (hx:Ext w w'):TRows B w' v xs:=⟨own_ext h.1 hx,fun x hm=>own_ext (h.2 x hm) hx⟩
theorem inK_cons {T:List ByteArray} {l:List Int} {k:Nat} (hk:k < l.length) (h:InK T (l.take k)) (hn:l[k].toNat < T.length):InK T (l.take (k + 1)):=by
 intro n hm
 rw [List.take_succ_eq_append_getElem hk] at hm
 rcases List.mem_append.1 hm with hm | hm
 ·exact h n hm
 ·rw [List.mem_singleton.1 hm];exact hn
theorem u64_cut (n:Nat) (h:n ≤ 4096):IntKind.u64.wrap (n:Int) = n:=by
 simp [IntKind.wrap,IntKind.bits,IntKind.signed];omega
theorem TRows.snoc {B:Nat} {w w':World} {v v':Value} {ys:List (Value × List ByteArray)} {u:Value} {s:List ByteArray} (h1:w.ownsRow B 22 1 v ys.length (ys.map Prod.fst)) (h2:∀ x ∈ ys,w.ownsRow B 9 1 x.1 x.2.length (x.2.map Value.string)) (hu:w.ownsRow B 9 1 u s.length (s.map Value.string))
 (h3:w'.ownsRow B 22 1 v' (ys.length + 1) (ys.map Prod.fst ++ [u])) (hg:w.grownBy w' v.ownBlock):TRows B w' v' (ys ++ [(u,s)]):=by
 refine ⟨by rw [List.length_append,List.map_append];exact h3,fun x hx=>?_⟩
 rcases List.mem_append.1 hx with hx | hx
 ·exact own_apart (h2 x hx) hg (fun b hb=>own_ne_own (h2 x hx) h1 (by decide) b hb)
 ·rw [List.mem_singleton.1 hx]
  exact own_apart hu hg (fun b hb=>own_ne_own hu h1 (by decide) b hb)
theorem u64_at {w:World} {kd:IntKind} {a:Option Addr} {n c:Nat} {l:List Int} (h:Ints w kd (.slice a n c) l) {k:Nat} (hk:k < l.length):∃ b o,a = some ⟨b,o,none⟩ ∧ w.cell? ⟨b,o + k,none⟩ = some (.int kd l[k]):=by
 obtain ⟨b,o,e,hc⟩:=h.atD hk
 refine ⟨b,o,e,?_⟩
 rw [hc,List.getD_eq_getElem?_getD,List.getElem?_eq_getElem hk];rfl
set_option maxHeartbeats 4000000 in
theorem keys_any (Hd:Heads) (D:Dic) (v:Value) (xs:List (Value × List Int)) (w:World) (hV:DicV w (hv Hd) D) (hS:DicS D) (hX:RowsV w .u64 v xs) (hn:∀ x ∈ xs,∀ n ∈ x.2,0 ≤ n ∧ n < 18446744073709551616) (hl:xs.length ≤ 1000000) (hl2:∀ x ∈ xs,x.2.length ≤ 1000000) :
 Calls Tryz.prog 26 #[dv (hv Hd),v] w (KeysQ w D (xs.map Prod.snd)):=by
 obtain ⟨xa,xc,rfl,_,_⟩:=Sl.shape hX.1
 have HDC:=hid (fun w' (hx:Ext w w')=>dcheck_any (hv Hd) D w' (hV.ext hx) hS)
 have HNY:=hid (fun w' (hx:Ext w w') (h:DicOK D)=>names_yes (hv Hd) D w' (hV.ext hx) hS h 0)
 have HXS:=hid hX
 have HN:=hid hn
 have HL:=hid hl
 have HL2:=hid hl2
 have H0:=hid (RowAt.new w 28 (dcells (hv Hd)))
 have HX:=hid (Ext.alloc w (.cells (dcells (hv Hd)).toArray 28))
 have HS:=hid hS
 clear hV hS hX hn hl hl2
 unfold dv at *
 go_enter Tryz.func26,Tryz.ntmps26
 go_upto_region 1 with fail
 generalize w.alloc (.cells (dcells (hv Hd)).toArray 28) = w1 at *
 obtain ⟨y0,hy0⟩:∃ x,w.heap.size = x:=⟨_,rfl⟩
 have HY:=hid hy0
 rw [hy0] at H0
 simp only [hy0]
 clear hy0
 apply wp_region_lit
 refine plain_load rfl _ _ rfl y0 rfl _ _ (H0.out) Tryz.underlying28 rfl (by kernel_rfl) ?_
 go_simp
 refine wpList_plain rfl fun K1 hK1=>?_
 go_simp
 refine (HDC.out w1 HX.out).mono ?_;rintro e w2 ⟨r,rfl,hr1,hr2,hx2⟩
 go_simp
 refine hK1 _ _ ?_
 clear hK1 K1
 (refine wpList_plain rfl fun Y y'=>?_;go_simp;refine y' _ _ ?_;clear y' Y)
 apply wpList_nil
 have HX2:=hid (HX.out.trans hx2)
 have G0:=hid (H0.out.ext hx2)
 have HR2:=hid hr2
 clear hx2 HX H0 HDC hr2
 rcases hr1 with rfl | rfl
 case inr =>
  have hno:¬ DicOK D:=fun h=>by have:=HR2.out.2 h;omega
  have HO:=hid hno
  clear hno
  go_wp2_with fail
  go_ret2
  exact ⟨_,[],160,rfl,.dict HO.out,TRows.none _ _,HX2.out⟩
 case inl =>
  have HOK:=hid (HR2.out.1 rfl)
  clear HR2
  go_upto_region 4 with fail
  apply wp_region_lit
  refine plain_load rfl _ _ rfl y0 rfl _ _ (G0.out) Tryz.underlying28 rfl (by kernel_rfl) ?_
  go_simp
  refine wpList_plain rfl fun K1 hK1=>?_
  go_simp
  refine (HNY.out w2 HX2.out HOK.out).mono ?_;rintro e w3 ⟨u,rfl,hu,hx3⟩
  go_simp
  refine hK1 _ _ ?_
  clear hK1 K1
  obtain ⟨ua,uc,rfl⟩:=own_vw hu
  rw [show namesF D 0 = (D 0).1 from rfl] at hu
  rw [show namesF D 0 = (D 0).1 from rfl]
  obtain ⟨T,hT⟩:∃ T,(D 0).1 = T:=⟨_,rfl⟩
  have HTE:=hid hT
  have hT4:T.length ≤ 4096:=by rw [← hT];exact (HS.out 0 (by omega)).1
  rw [hT] at hu
  rw [hT]
  have HTS:=hid (show Strs w3 (.slice ua T.length uc) T from Sl.of_own hu)
  have HX3:=hid (HX2.out.trans hx3)
  have hcv:=u64_cut T.length hT4
  clear hu hT hx3 HX2 HNY HS G0
  (refine wpList_plain rfl fun Y y'=>?_;go_simp;refine y' _ _ ?_;clear y' Y)
  apply wpList_nil
  go_wp2_with fail
  go_loopg [8,23] xs.length (fun g out i wr=>∃ (k:Nat) (ys:List (Value × List ByteArray)) (oa:Option Addr) (oc:Nat),k ≤ xs.length ∧ g = xs.length - k ∧ i = .int .i64 k ∧ out = .slice oa k oc ∧ Hid (ys.length = k ∧ ys.map Prod.snd = (xs.take k).map (fun x=>x.2.map (keyF T)) ∧ ∀ x ∈ xs.take k,InK T x.2) ∧ Hid (Ext w3 wr) ∧ Hid (TRows w3.heap.size wr (.slice oa k oc) ys))
  case atStart=>exact ⟨0,[],none,0,Nat.zero_le _,rfl,rfl,rfl,hid ⟨rfl,rfl,fun x hx=>by simp at hx⟩,hid (Ext.refl _),hid (TRows.none _ _)⟩
  case round =>
   obtain ⟨k,ys,oa,oc,hk,hg,rfl,rfl,HI,HXR,HO⟩:=hrel
   obtain ⟨wo,hwo⟩:∃ x,x = wr:=⟨_,rfl⟩
   subst hwo
   have Hg:=hid hg
   clear hg
   have hk6:k ≤ 1000000:=by have:=HL.out;omega
   by_cases hlt:k < xs.length
   ·obtain ⟨⟨b,o,rfl,c0⟩,hints⟩:=(HXS.out.ext (HX3.out.trans HXR.out)).at_ hlt
    have hln:=HL2.out _ (List.getElem_mem hlt)
    have hnn:=HN.out _ (List.getElem_mem hlt)
    have hstep1:∀ z:List ByteArray,z = xs[k].2.map (keyF T) → InK T xs[k].2 → ∀ q,(ys ++ [(q,z)]).length = k + 1 ∧ (ys ++ [(q,z)]).map Prod.snd = (xs.take (k + 1)).map (fun x=>x.2.map (keyF T)) ∧ ∀ x ∈ xs.take (k + 1),InK T x.2:=by
     rintro z rfl hin q
     obtain ⟨i1,i2,i3⟩:=HI.out
     rw [List.take_succ_eq_append_getElem hlt]
     refine ⟨by simp [i1],by rw [List.map_append,List.map_append,i2];rfl,fun x hx=>?_⟩
     rcases List.mem_append.1 hx with hx | hx
     ·exact i3 x hx
     ·rw [List.mem_singleton.1 hx];exact hin
    have hmem:=List.getElem_mem hlt
    have hbadk:¬ InK T xs[k].2 → ¬ ∀ l ∈ xs.map Prod.snd,InK T l:=fun h h'=>h (h' _ (List.mem_map.2 ⟨_,hmem,rfl⟩))
    generalize xs[k] = x at *
    obtain ⟨xv,l⟩:=x
    dsimp only at c0 hints hln hnn hstep1 hbadk
    obtain ⟨la,lc,rfl,_,_⟩:=hints.shape
    have HLI:=hid hints
    have HNN:=hid hnn
    have HST:=hid hstep1
    have HBK:=hid hbadk
    clear hints hnn hstep1 hbadk hmem
    go_wp2_with fail
    go_loopg [11,29] l.length (fun g keys i w4=>∃ (j:Nat) (ka:Option Addr) (kc:Nat),j ≤ l.length ∧ g = l.length - j ∧ i = .int .i64 j ∧ keys = .slice ka j kc ∧ Hid (InK T (l.take j)) ∧ Hid (Ext wo w4) ∧ Hid (w4.ownsRow wo.heap.size 9 1 (.slice ka j kc) j ((l.take j).map fun n=>Value.string (keyF T n))))
    case atStart=>exact ⟨0,none,0,Nat.zero_le _,rfl,rfl,rfl,hid (fun n hn=>by simp at hn),hid (Ext.refl _),hid (World.ownsRow_nil _ _ _ _)⟩
    case round =>
     obtain ⟨j,ka,kc,hj,hg2,rfl,rfl,HJ,HX4,HK⟩:=hrel
     have Hg2:=hid hg2
     clear hg2 c0
     have hj6:j ≤ 1000000:=by omega
     by_cases hltj:j < l.length
     ·obtain ⟨b2,o2,rfl,d0⟩:=u64_at (HLI.out.ext HX4.out) hltj
      have hnj:=HNN.out _ (List.getElem_mem hltj)
      have htk:=List.take_succ_eq_append_getElem hltj
      have hink:=fun h=>inK_cons (T:=T) hltj HJ.out h
      have hmj:=List.getElem_mem hltj
      generalize l[j] = n at *
      obtain ⟨q,rfl⟩:∃ q:Nat,n = q:=⟨n.toNat,by omega⟩
      rw [Int.toNat_natCast] at hink
      have HTK:=hid htk
      have HIN:=hid hink
      have HMJ:=hid hmj
      clear htk hink hmj
      by_cases hq:q < T.length
      ·obtain ⟨b3,o3,rfl,e0⟩:=(Strs.ext HTS.out (HXR.out.trans HX4.out)).at_ hq
       have hkey:keyF T (q:Int) = T[q]:=by
        unfold keyF
        rw [Int.toNat_natCast,List.getD_eq_getElem?_getD,List.getElem?_eq_getElem hq];rfl
       have HKEY:=hid hkey
       generalize T[q] = s at *
       have hge:((q:Int) ≥ (T.length:Int)) = False:=by simp;omega
       clear hkey
       go_wp2_with (at_builtin;refine wpList_append_sl _ rfl _ _ 22 rfl elStr rfl (own_ext HK.out (Ext.alloc _ _)) rfl (Sl.new _ #[.string s] 9 1 1 (Nat.le_refl _) ?_) rfl ?_ ?_ ?_ ?_ ?_)
       ·unfold maxLen;omega
       ·rfl
       ·omega
       ·unfold maxLen;omega
       ·have:=HX4.out.size;simp;omega
       intro v' w6 how6 hb6 hg6 _
       obtain ⟨va,vc,rfl⟩:=own_vw how6
       have HX6:=hid (show Ext wo w6 from Below.trans (HX4.out.trans (Ext.alloc _ _)) hb6)
       have HK6:=hid (show w6.ownsRow wo.heap.size 9 1 (.slice va (j + 1) vc) (j + 1) ((l.take (j + 1)).map fun n=>Value.string (keyF T n)) by
        rw [HTK.out,List.map_append]
        show w6.ownsRow _ _ _ _ _ (_ ++ [Value.string (keyF T q)])
        rw [HKEY.out,List.map_take];exact how6)
       clear how6 hb6 hg6 d0 e0 HX4 HK
       go_wp2_with fail
       go_roundg (l.length - (j + 1))
       case measure=>have:=Hg2.out;omega
       case rel=>exact ⟨j + 1,va,vc,by omega,rfl,by first | rfl | go_num,rfl,hid (HIN.out hq),HX6,HK6⟩
      ·have hge:((q:Int) ≥ (T.length:Int)) = True:=by simp;omega
       have hne:=HBK.out (fun h=>hq (by have:=h _ HMJ.out;simpa using this))
       have HNE:=hid hne
       clear hne
       go_wp2_with fail
       go_ret2
       exact ⟨_,[],2,rfl,.arg HOK.out (by rw [HTE.out];exact HNE.out),TRows.none _ _,HX3.out.trans (HXR.out.trans HX4.out)⟩
     ·have he:j = l.length:=by omega
      subst he
      have hal:=HJ.out
      have hkk:=HK.out
      rw [List.take_length] at hal hkk
      have HAL:=hid hal
      have HKK:=hid hkk
      clear hal hkk HJ HK
      have hrow:=HO.out.ext (HX4.out.trans (Ext.alloc wr (.cells #[.slice ka l.length kc] 22)))
      have HRS:=hid hrow
      have hrow1:(wr.alloc (.cells #[.slice ka l.length kc] 22)).ownsRow w3.heap.size 22 1 (.slice oa k oc) k (ys.map Prod.fst):=by have:=hrow.1;rwa [HI.out.1] at this
      have hkw:(wr.alloc (.cells #[.slice ka l.length kc] 22)).ownsRow w3.heap.size 9 1 (.slice ka (l.map (keyF T)).length kc) (l.map (keyF T)).length ((l.map (keyF T)).map Value.string):=by
       rw [List.length_map,List.map_map]
       exact own_ext (own_base HKK.out HXR.out.size) (Ext.alloc _ _)
      have HKW:=hid hkw
      clear hrow hkw HO
      go_wp2_with (at_builtin;refine wpList_append_sl _ rfl _ _ 62 rfl elRow rfl hrow1 rfl (Sl.new _ #[.slice ka l.length kc] 22 1 1 (Nat.le_refl _) ?_) rfl ?_ ?_ ?_ ?_ ?_)
      ·unfold maxLen;omega
      ·rfl
      ·omega
      ·unfold maxLen;omega
      ·have:=HXR.out.size;have:=HX4.out.size;simp;omega
      intro v' w6 how6 hb6 hg6 _
      obtain ⟨va,vc,rfl⟩:=own_vw how6
      have HX6:=hid (show Ext w3 w6 from Below.trans ((HXR.out.trans HX4.out).trans (Ext.alloc _ _)) hb6)
      have hsn:=TRows.snoc HRS.out.1 HRS.out.2 HKW.out (v':=.slice va (k + 1) vc) (w':=w6) (by rw [HI.out.1,List.length_map];exact how6) hg6
      have HSN:=hid hsn
      have HI6:=hid (HST.out _ rfl HAL.out (.slice ka (l.map (keyF T)).length kc))
      clear how6 hb6 hg6 hsn hrow1
      go_wp2_with fail
      go_roundg (xs.length - (k + 1))
      case measure=>have:=Hg.out;omega
      case rel=>exact ⟨k + 1,_,va,vc,by omega,rfl,by first | rfl | go_num,rfl,HI6,HX6,HSN⟩
   ·have he:k = xs.length:=by omega
    subst he
    have hres:=HI.out
    rw [List.take_length] at hres
    have HRES:=hid hres
    clear hres
    go_wp2_with fail
    go_ret2
    refine ⟨_,ys,0,rfl,?_,⟨own_base HO.out.1 HX3.out.size,fun x hx=>own_base (HO.out.2 x hx) HX3.out.size⟩,HX3.out.trans HXR.out⟩
    rw [HRES.out.2.1]
    have:=KeysR.ok (X:=xs.map Prod.snd) HOK.out (by rw [HTE.out];intro l hl;obtain ⟨x,hx,rfl⟩:=List.mem_map.1 hl;exact HRES.out.2.2 x hx)
    rw [HTE.out,List.map_map] at this
    exact this
end

/- What is struck out of a row, in place. -/
section
open Go.RowKit Go.Shelf Go.Sort Go.Lib
attribute [local go_sem] Oper.semAt_some wide_fn wide_depth
def delRen:Go.Shelf.Ren:=⟨fun | 10=>67 | 6=>104 | n=>n,fun | 22=>23 | 23=>3 | 25=>121 | n=>n,fun | n=>n⟩
theorem delLays:SlLaysH.n10 Tryz.prog delRen:={
 mixed:=by kernel_rfl
 f10 := ⟨Tryz.f67.name, by decide, Tryz.func67.trans (congrArg some (by kernel_rfl))⟩
 f6 := ⟨Tryz.f104.name, by decide, Tryz.func104.trans (congrArg some (by kernel_rfl))⟩
 t0:=Tryz.underlying0
 a0:=Tryz.isAgg0
 z0:=Tryz.sizeOf0
 v0:=Tryz.zeroValue0
 t3:=Tryz.underlying3
 a3:=Tryz.isAgg3
 z3:=Tryz.sizeOf3
 v3:=Tryz.zeroValue3
 t4:=Tryz.underlying4
 a4:=Tryz.isAgg4
 z4:=Tryz.sizeOf4
 v4:=Tryz.zeroValue4
 t22:=Tryz.underlying23
 a22:=Tryz.isAgg23
 z22:=Tryz.sizeOf23
 v22:=Tryz.zeroValue23
 a23:=Tryz.isAgg3
 z23:=Tryz.sizeOf3
 t25:=Tryz.underlying121
 a25:=Tryz.isAgg121
 z25:=Tryz.sizeOf121
 v25:=Tryz.zeroValue121 }
theorem setCells_setL (g:Nat):∀ (xs:List Value) (i:Nat) (w:World),w.setCells g i xs = setL w g i xs
 | [],_,_=>rfl
 | x :: xs,i,w=>by rw [World.setCells,setL,setCells_setL g xs]
theorem row_setL3 {g:Nat} {t:TypeId}:∀ (xs pre ys zs:List Value) {W:World},RowAt W g t (pre ++ (ys ++ zs)) → ys.length = xs.length → RowAt (setL W g pre.length xs) g t (pre ++ (xs ++ zs))
 | [],pre,ys,zs,W,h,hl=>by
  obtain rfl:ys = []:=List.eq_nil_of_length_eq_zero (by simpa using hl)
  exact h
 | x :: xs,pre,[],zs,W,h,hl=>by simp at hl
 | x :: xs,pre,y :: ys,zs,W,h,hl=>by
  have h1:=h.set pre.length x
  rw [show (pre ++ (y :: ys ++ zs)).set pre.length x = (pre ++ [x]) ++ (ys ++ zs) by simp] at h1
  have h2:=row_setL3 xs (pre ++ [x]) ys zs h1 (by simpa using hl)
  rw [show (pre ++ [x]).length = pre.length + 1 by simp,show (pre ++ [x]) ++ (xs ++ zs) = pre ++ (x :: xs ++ zs) by simp] at h2
  exact h2
theorem setCells_row {w:World} {g:Nat} {t:TypeId} {ys zs:List Value} (h:RowAt w g t (ys ++ zs)) (xs:List Value) (hl:ys.length = xs.length):RowAt (w.setCells g 0 xs) g t (xs ++ zs) ∧ w.grownBy (w.setCells g 0 xs) (some g):=by
 rw [setCells_setL]
 exact ⟨row_setL3 xs [] ys zs h hl,grown_setL xs 0 w⟩
theorem neg_any (W:World) (x:Int):FnGives Tryz.prog 69 #[] #[.int .i64 x] (.bool (decide (x < 0))) W:=by
 show Calls Tryz.prog 69 #[.int .i64 x] W _
 go_enter Tryz.func69,Tryz.ntmps69
 go_wp2
 all_goals (go_ret;exact ⟨by simp_all,0,rfl⟩)
def keepL (l:List Int):List Int:=l.filter fun x=>!decide (x < 0)
theorem del_any (g:Nat) (l z:List Int) (c:Nat) (w:World) (h:RowAt w g 3 ((l ++ z).map (Value.int .i64))) (hc:l.length ≤ c) (hl:l.length ≤ 1000000) :
 Calls Tryz.prog 67 #[.slice (some ⟨g,0,none⟩) l.length c,.func (.func 69) #[] #[]] w fun e w' =>
  e = .returned (.slice (some ⟨g,0,none⟩) (keepL l).length c) ∧ (∃ z',RowAt w' g 3 ((keepL l ++ z').map (Value.int .i64))) ∧ w.grownBy w' (some g):=by
 have eg:∀ args w,(callFunc 69 args).run Tryz.prog w = .ok (.enter 69 args) w:=enters_of Tryz.func69 (by kernel_rfl) rfl
 have hH:Holds (Value.int .i64) w g 0 l.toArray:=by
  intro j hj
  have hj':j < l.length:=by simpa using hj
  refine ⟨?_,h.frozen _⟩
  rw [Nat.zero_add]
  exact h.cell (by simp [hj',List.getElem?_append_left])
 have hcon:=AnyE.slices_DeleteFunc delLays (Value.int .i64) (fun _=>rfl) (fun x=>decide (x < 0)) 69 #[] eg 0 Tryz.zeroValue3 g 0 c l.toArray w (fun W x _=>neg_any W x) (fun n os dk x _=>neg_any _ x) hH (by simp;omega) (by simpa using hc)
 change Calls Tryz.prog 67 _ _ _ at hcon
 simp only [List.size_toArray] at hcon
 refine hcon.mono ?_
 rintro e w' ⟨rfl,q,rfl⟩
 have hk:(keepL l).length ≤ l.length:=List.length_filter_le _ _
 obtain ⟨R,hR⟩:∃ R,keepL l ++ List.replicate (l.length - (keepL l).length) 0 = R:=⟨_,rfl⟩
 have hRl:R.length = l.length:=by rw [← hR];simp;omega
 rw [show (l.filter fun x=>!decide (x < 0)) = keepL l from rfl,hR,putRow_eq_setCells (Value.int .i64) w g 0 l.toArray R q hH (by simpa using hRl)]
 have hd:RowAt (w.drewN q) g 3 (l.map (Value.int .i64) ++ z.map (Value.int .i64)):=by rw [← List.map_append];exact h.ext (Ext.drewN w q)
 have hs:=setCells_row hd (R.map (Value.int .i64)) (by simp [hRl])
 refine ⟨rfl,⟨List.replicate (l.length - (keepL l).length) 0 ++ z,?_⟩,?_⟩
 ·rw [← List.append_assoc,hR,List.map_append];exact hs.1
 ·exact ⟨hs.2.os,hs.2.tape,hs.2.output,hs.2.size,hs.2.block⟩
theorem compact_any (g:Nat) (l:List Int) (c:Nat) (w:World) (h:RowAt w g 3 (l.map (Value.int .i64))) (hc:l.length ≤ c) (hl:l.length ≤ 1000000) :
 Calls Tryz.prog 68 #[.slice (some ⟨g,0,none⟩) l.length c] w fun e w' =>
  e = .returned (.slice (some ⟨g,0,none⟩) (Lib.compact l).length c) ∧ (∃ z',RowAt w' g 3 ((Lib.compact l ++ z').map (Value.int .i64))) ∧ w.grownBy w' (some g):=by
 have hH:Holds (Value.int .i64) w g 0 l.toArray:=by
  intro j hj
  have hj':j < l.length:=by simpa using hj
  refine ⟨?_,h.frozen _⟩
  rw [Nat.zero_add]
  exact h.cell (by simp [hj'])
 refine (Tryz.slices_Compact_int g 0 c l w hH (by omega) hc).mono ?_
 rintro e w' ⟨rfl,q,rfl⟩
 have hk:(Lib.compact l).length ≤ l.length:=by
  unfold Lib.compact compactUpTo
  rw [List.length_map]
  exact Nat.le_trans (List.length_filter_le _ _) (by simp)
 obtain ⟨R,hR⟩:∃ R,Lib.compact l ++ List.replicate (l.length - (Lib.compact l).length) 0 = R:=⟨_,rfl⟩
 have hRl:R.length = l.length:=by rw [← hR];simp;omega
 rw [hR,putRow_eq_setCells (Value.int .i64) w g 0 l.toArray R q hH (by simpa using hRl)]
 have hd:RowAt (w.drewN q) g 3 (l.map (Value.int .i64) ++ []):=by rw [List.append_nil];exact h.ext (Ext.drewN w q)
 have hs:=setCells_row hd (R.map (Value.int .i64)) (by simp [hRl])
 refine ⟨rfl,⟨List.replicate (l.length - (Lib.compact l).length) 0,?_⟩,?_⟩
 ·rw [hR];have:=hs.1;rwa [List.append_nil] at this
 ·exact ⟨hs.2.os,hs.2.tape,hs.2.output,hs.2.size,hs.2.block⟩
end

end Go.Proofs.YtkmbnghghbfkdaaGreat
