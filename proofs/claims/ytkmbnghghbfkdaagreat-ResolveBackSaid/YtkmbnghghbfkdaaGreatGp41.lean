/- The document: ids, places. -/
import Derived.Test.YtkmbnghghbfkdaaGreatGp40
import Derived.Test.YtkmbnghghbfkdaaGreatGp11
import Derived.Test.YtkmbnghghbfkdaaGreatGp15
set_option linter.unusedSimpArgs false
set_option linter.unusedVariables false
set_option maxHeartbeats 2000000
set_option maxRecDepth 100000
namespace Go.Proofs.YtkmbnghghbfkdaaGreat
open Go.Lib (hid)

section
open Go.RowKit Go.Shelf Go.Sort
attribute [local go_sem] Oper.semAt_some wide_fn wide_depth
theorem idR_any (A:Heads) (D:Dic) (kind:Int) (s:ByteArray) (w:World) (hV:DicV w (hv A) D) :
 Calls Tryz.prog 98 #[.agg (dcells (hv A)).toArray,.int .i64 kind,.string s] w fun e w'=>e = .returned (.int .i64 (idF D kind s)) ∧ Ext w w':=by
 have HN:=hid (show NamV w (ofV (hv A)) (ofD D) from hV.names)
 have H0:=hid (RowAt.new w 28 (dcells (hv A)))
 have HX:=hid (Ext.alloc w (.cells (dcells (hv A)).toArray 28))
 clear hV
 go_enter Tryz.func98,Tryz.ntmps98
 go_upto_region 1 with fail
 generalize w.alloc (.cells (dcells (hv A)).toArray 28) = w1 at *
 obtain ⟨y0,hy0⟩:∃ x,w.heap.size = x:=⟨_,rfl⟩
 rw [hy0] at H0
 simp only [hy0]
 clear hy0
 have hof:=of_any (hv A) (fun i hi=>⟨_,_,_,_,_,_,rfl⟩) w1
 unfold dv nv at hof
 have HOF:=hid hof
 have HID:=hid (fun w' (hx:Ext w1 w')=>refId_any (ofV (hv A)) (ofD D) kind s w' (HN.out.ext (HX.out.trans hx)))
 unfold nv at HID
 clear hof
 apply wp_region_lit
 refine plain_load rfl _ _ rfl y0 rfl _ _ (H0.out) Tryz.underlying28 rfl (by kernel_rfl) ?_
 go_simp
 refine wpList_plain rfl fun K1 hK1=>?_
 go_simp
 refine HOF.out.mono ?_;rintro e w2 ⟨rfl,hx2⟩
 go_simp
 refine hK1 _ _ ?_
 clear hK1 K1
 iterate 2 (refine wpList_plain rfl fun Y y'=>?_;go_simp;refine y' _ _ ?_;clear y' Y)
 refine wpList_plain rfl fun K1 hK1=>?_
 go_simp
 refine (HID.out w2 hx2).mono ?_;rintro e w3 ⟨rfl,hx3⟩
 go_simp
 refine hK1 _ _ ?_
 clear hK1 K1
 (refine wpList_plain rfl fun Y y'=>?_;go_simp;refine y' _ _ ?_;clear y' Y)
 apply wpList_nil
 go_wp2_with fail
 go_ret
 exact ⟨rfl,(HX.out.trans hx2).trans hx3⟩
theorem findF_stop {T:List ByteArray} {s:ByteArray} {j:Nat} (hj:j < T.length) (he:T[j] = s) (h:∀ i (hi:i < j),T[i]? ≠ some s):findF T s = j :=
 findF_yes.2 ⟨hj,he,fun i hi e=>h i hi (by rw [List.getElem?_eq_getElem (by omega),e])⟩
set_option maxHeartbeats 1000000 in
theorem placeR_any (s:ByteArray) (v:Value) (T:List ByteArray) (w:World) (hT:Strs w v T) :
 Calls Tryz.prog 96 #[v,.string s] w fun e w'=>e = .returned (.int .i64 (findF T s)) ∧ Ext w w':=by
 obtain ⟨a,c,rfl,hc1,hc2⟩:=Sl.shape hT
 have HT:=hid hT
 clear hT
 go_enter Tryz.func96,Tryz.ntmps96
 go_wp2_with fail
 go_loopg [9] T.length (fun g i wr=>∃ j:Nat,j ≤ T.length ∧ g = T.length - j ∧ i = .int .i64 j ∧ Hid (∀ i (hi:i < j),T[i]? ≠ some s) ∧ Ext w wr)
 case atStart=>exact ⟨0,Nat.zero_le _,rfl,rfl,hid (fun i hi=>by omega),Ext.refl _⟩
 case round =>
  obtain ⟨j,hj,hg,rfl,HB,hxr⟩:=hrel
  have Hg:=hid hg
  clear hg
  by_cases hlt:j < T.length
  ·obtain ⟨b,o,rfl,c0⟩:=(HT.out.ext hxr).at_ hlt
   have hst:=fun h=>findF_stop (s:=s) hlt h HB.out
   have hgo:T[j] ≠ s → ∀ i (hi:i < j + 1),T[i]? ≠ some s:=fun hne i hi=>by
    by_cases e:i = j
    ·subst e;rw [List.getElem?_eq_getElem hlt];exact fun h=>hne (Option.some.inj h)
    ·exact HB.out i (by omega)
   generalize T[j] = x at *
   have HST:=hid hst
   have HGO:=hid hgo
   clear hst hgo
   by_cases hxs:x = s
   ·have hs:(x.toList == s.toList) = true:=str_yes hxs
    have HF:=hid (HST.out hxs)
    clear hxs
    go_wp2_with fail
    go_ret
    exact ⟨by rw [HF.out];rfl,hxr⟩
   ·have hs:(x.toList == s.toList) = false:=str_no hxs
    have HD:=hid (HGO.out hxs)
    clear hxs
    go_wp2_with fail
    go_roundg (T.length - (j + 1))
    case measure=>have:=Hg.out;omega
    case rel=>exact ⟨j + 1,by omega,rfl,by go_num,HD,hxr⟩
  ·have he:j = T.length:=by omega
   subst he
   have HF:Hid (findF T s = -1):=hid (findF_no.2 (fun hm=>by
    obtain ⟨i,hi,e⟩:=List.getElem_of_mem hm
    exact HB.out i hi (by rw [List.getElem?_eq_getElem hi,e])))
   go_wp2_with fail
   go_ret
   exact ⟨by rw [HF.out];rfl,hxr⟩
set_option maxHeartbeats 1000000 in
theorem placesR_any (v u:Value) (L V:List ByteArray) (w:World) (hL:Strs w v L) (hV:Strs w u V) (hn:L.length ≤ 1000000) :
 Calls Tryz.prog 52 #[v,u] w fun e w'=>∃ a c,e = .returned (.slice a L.length c) ∧ w'.ownsRow w.heap.size 3 1 (.slice a L.length c) L.length ((L.map (findF V)).map (Value.int .i64)) ∧ Ext w w':=by
 obtain ⟨la,lc,rfl,hlc1,hlc2⟩:=Sl.shape hL
 obtain ⟨va,vc,rfl,hvc1,hvc2⟩:=Sl.shape hV
 have HL:=hid hL
 have HV:=hid (fun s w' (hx:Ext w w')=>placeR_any s _ V w' (Strs.ext hV hx))
 clear hL hV
 go_enter Tryz.func52,Tryz.ntmps52
 go_wp2_with fail
 go_loopg [5,10] L.length (fun g out i wr=>∃ (k:Nat) (oa:Option Addr) (oc:Nat),k ≤ L.length ∧ g = L.length - k ∧ i = .int .i64 k ∧ out = .slice oa k oc ∧ Hid (Ext w wr) ∧ Hid (wr.ownsRow w.heap.size 3 1 (.slice oa k oc) k (((L.take k).map (findF V)).map (Value.int .i64))))
 case atStart=>exact ⟨0,none,0,Nat.zero_le _,rfl,rfl,rfl,hid (Ext.refl _),hid (World.ownsRow_nil _ _ _ _)⟩
 case round =>
  obtain ⟨k,oa,oc,hk,hg,rfl,rfl,HXR,HO⟩:=hrel
  have Hg:=hid hg
  clear hg
  have hk6:k ≤ 1000000:=by omega
  by_cases hlt:k < L.length
  ·obtain ⟨b,o,rfl,c0⟩:=(Strs.ext HL.out HXR.out).at_ hlt
   have htk:=List.take_succ_eq_append_getElem hlt
   generalize L[k] = s at *
   have HTK:=hid htk
   clear htk
   have HC:=hid (HV.out s wr HXR.out)
   go_wp2_with fail
   refine HC.out.mono ?_
   rintro e w2 ⟨rfl,hx2⟩
   have HX2:=hid (HXR.out.trans hx2)
   have HO2:=hid (own_ext HO.out hx2)
   clear hx2 HXR HO HC c0
   go_wp2_with (at_builtin;refine wpList_append_sl _ rfl _ _ 23 rfl elIn rfl (own_ext HO2.out (Ext.alloc _ _)) rfl (Sl.new _ #[.int .i64 (findF V s)] 3 1 1 (Nat.le_refl _) ?_) rfl ?_ ?_ ?_ ?_ ?_)
   ·unfold maxLen;omega
   ·rfl
   ·omega
   ·unfold maxLen;omega
   ·have:=HX2.out.size;simp;omega
   intro v' w6 how6 hb6 hg6 _
   obtain ⟨va',vc',rfl⟩:=own_vw how6
   have HX6:=hid (show Ext w w6 from Below.trans (HX2.out.trans (Ext.alloc _ _)) hb6)
   have HO6:=hid (show w6.ownsRow w.heap.size 3 1 (.slice va' (k + 1) vc') (k + 1) (((L.take (k + 1)).map (findF V)).map (Value.int .i64)) by
    rw [HTK.out,List.map_append,List.map_append,List.map_take,List.map_take,List.map_map];exact how6)
   clear how6 hb6 hg6
   go_wp2_with fail
   go_roundg (L.length - (k + 1))
   case measure=>have:=Hg.out;omega
   case rel=>exact ⟨k + 1,va',vc',by omega,rfl,by first | rfl | go_num,rfl,HX6,HO6⟩
  ·have he:k = L.length:=by omega
   subst he
   have ho:=HO.out
   rw [List.take_length] at ho
   have HO2:=hid ho
   clear ho HO
   go_wp2_with fail
   go_ret
   exact ⟨oa,oc,rfl,HO2.out,HXR.out⟩
end

/- The document: a term's argument. -/
section
open Go.RowKit Go.Shelf Go.Sort
attribute [local go_sem] Oper.semAt_some wide_fn wide_depth
def argT (D:Dic) (V:List ByteArray) (k:Bool) (s:ByteArray):Arg × Bool:=if k = true then (⟨-1,idF D 0 s⟩,decide (0 ≤ idF D 0 s)) else (⟨findF V s,0⟩,true)
theorem argT_F (D:Dic) (V:List ByteArray) (k:Bool) (s:ByteArray):argF D V k s = if (argT D V k s).2 = true then some (argT D V k s).1 else none:=by
 unfold argF argT
 cases k with
 | true =>
  rw [if_pos rfl,if_pos rfl]
  by_cases h:0 ≤ idF D 0 s
  ·rw [if_pos h];simp [h]
  ·rw [if_neg h];simp [h]
 | false=>simp
theorem argR_any (A:Heads) (D:Dic) (V:List ByteArray) (vv:Value) (k:Bool) (s:ByteArray) (w:World) (hV:DicV w (hv A) D) (hVV:Strs w vv V) :
 Calls Tryz.prog 97 #[.agg (dcells (hv A)).toArray,vv,.agg #[.bool k,.string s]] w fun e w'=>e = .returned (.tuple #[.agg #[.int .i64 (argT D V k s).1.var,.int .i64 (argT D V k s).1.id],.bool (argT D V k s).2]) ∧ Ext w w':=by
 have HI:=hid (fun w' (hx:Ext w w')=>idR_any A D 0 s w' (hV.ext hx))
 have HP:=hid (fun w' (hx:Ext w w')=>placeR_any s vv V w' (Strs.ext hVV hx))
 clear hV hVV
 cases k with
 | false =>
  have he:argT D V false s = (⟨findF V s,0⟩,true):=rfl
  rw [he]
  dsimp only
  clear he
  generalize findF V s = q at *
  have hbx:=boxes3 w (dcells (hv A)) 28 ([.bool false,.string s]) 86 ([.int .i64 0,.int .i64 0]) 73
  have HBX:=hid hbx
  clear hbx
  go_enter Tryz.func97,Tryz.ntmps97
  go_upto_region 1 with fail
  generalize ((w.alloc (.cells (dcells (hv A)).toArray 28)).alloc (.cells ([.bool false,.string s]).toArray 86)).alloc (.cells ([.int .i64 0,.int .i64 0]).toArray 73) = w1 at *
  obtain ⟨y0,hy0⟩:∃ x,w.heap.size = x:=⟨_,rfl⟩
  obtain ⟨y1,hy1⟩:∃ x,y0 + 1 = x:=⟨_,rfl⟩
  obtain ⟨y2,hy2⟩:∃ x,y1 + 1 = x:=⟨_,rfl⟩
  rw [hy0,hy1,hy2] at HBX
  simp only [hy0,hy1,hy2]
  have HN:=hid (show w.heap.size = y0 ∧ y0 + 1 = y1 ∧ y1 + 1 = y2 from ⟨hy0,hy1,hy2⟩)
  have HX:=hid HBX.out.1
  have H0:=hid HBX.out.2.1
  have H1:=hid HBX.out.2.2.1
  have H2:=hid HBX.out.2.2.2
  clear hy0 hy1 hy2 HBX
  have k0:=H1.out.cell (i:=0) rfl
  have k1:=H1.out.cell (i:=1) rfl
  go_upto_region 2 with fail
  apply wp_region_lit
  iterate 3 (refine wpList_plain rfl fun Y y'=>?_;go_simp;refine y' _ _ ?_;clear y' Y)
  refine wpList_plain rfl fun K1 hK1=>?_
  go_simp
  refine (HP.out w1 HX.out).mono ?_;rintro e w2 ⟨rfl,hx2⟩
  go_simp
  refine hK1 _ _ ?_
  clear hK1 K1
  refine wpList_built rfl _ _ rfl #[.int .i64 q,.int .i64 0] (by kernel_rfl) ?_
  have HX2:=hid (HX.out.trans hx2)
  have HB2:=hid (H2.out.ext hx2)
  clear hx2 HX H0 H1 H2 HI HP k0 k1
  refine plain_store rfl _ _ _ rfl y2 ([.int .i64 q,.int .i64 0]) rfl rfl (HB2.out) (by kernel_rfl) rfl ((by simp [Value.oneCell'])) ?_
  have HRR:=hid ((HB2.out).setRow ([.int .i64 q,.int .i64 0]))
  have HXX:=hid (show Ext w ((w2).setRow y2 ([.int .i64 q,.int .i64 0]).toArray) from below_setRow (HX2.out) ((by have:=HN.out;omega)) _)
  go_simp
  generalize (w2).setRow y2 ([.int .i64 q,.int .i64 0]).toArray = wend at *
  (refine wpList_plain rfl fun Y y'=>?_;go_simp;refine y' _ _ ?_;clear y' Y)
  apply wpList_nil
  go_wp2_with fail
  exact bodyPost_ret (results_row1 rfl rfl HRR.out Tryz.underlying73 rfl (by kernel_rfl)) rfl (⟨rfl,HXX.out⟩)
 | true =>
  have he:argT D V true s = (⟨-1,idF D 0 s⟩,decide (0 ≤ idF D 0 s)):=rfl
  rw [he]
  dsimp only
  clear he
  generalize idF D 0 s = q at *
  by_cases hq:0 ≤ q
  ·have hd:decide (0 ≤ q) = true:=decide_eq_true hq
   rw [hd]
   have hge:(q ≥ 0) = True:=by simp only [ge_iff_le,eq_iff_iff,iff_true];exact hq
   clear hd hq
   have hbx:=boxes3 w (dcells (hv A)) 28 ([.bool true,.string s]) 86 ([.int .i64 0,.int .i64 0]) 73
   have HBX:=hid hbx
   clear hbx
   go_enter Tryz.func97,Tryz.ntmps97
   go_upto_region 1 with fail
   generalize ((w.alloc (.cells (dcells (hv A)).toArray 28)).alloc (.cells ([.bool true,.string s]).toArray 86)).alloc (.cells ([.int .i64 0,.int .i64 0]).toArray 73) = w1 at *
   obtain ⟨y0,hy0⟩:∃ x,w.heap.size = x:=⟨_,rfl⟩
   obtain ⟨y1,hy1⟩:∃ x,y0 + 1 = x:=⟨_,rfl⟩
   obtain ⟨y2,hy2⟩:∃ x,y1 + 1 = x:=⟨_,rfl⟩
   rw [hy0,hy1,hy2] at HBX
   simp only [hy0,hy1,hy2]
   have HN:=hid (show w.heap.size = y0 ∧ y0 + 1 = y1 ∧ y1 + 1 = y2 from ⟨hy0,hy1,hy2⟩)
   have HX:=hid HBX.out.1
   have H0:=hid HBX.out.2.1
   have H1:=hid HBX.out.2.2.1
   have H2:=hid HBX.out.2.2.2
   clear hy0 hy1 hy2 HBX
   have k0:=H1.out.cell (i:=0) rfl
   have k1:=H1.out.cell (i:=1) rfl
   go_upto_region 3 with fail
   apply wp_region_lit
   refine plain_load rfl _ _ rfl y0 rfl _ _ (H0.out) Tryz.underlying28 rfl (by kernel_rfl) ?_
   go_simp
   iterate 2 (refine wpList_plain rfl fun Y y'=>?_;go_simp;refine y' _ _ ?_;clear y' Y)
   refine wpList_plain rfl fun K1 hK1=>?_
   go_simp
   refine (HI.out w1 HX.out).mono ?_;rintro e w2 ⟨rfl,hx2⟩
   go_simp
   refine hK1 _ _ ?_
   clear hK1 K1
   (refine wpList_plain rfl fun Y y'=>?_;go_simp;refine y' _ _ ?_;clear y' Y)
   apply wpList_nil
   have HX2:=hid (HX.out.trans hx2)
   have HB2:=hid (H2.out.ext hx2)
   clear hx2 HX H0 H1 H2 HI HP k0 k1
   go_upto_region 4 with fail
   apply wp_region_lit
   (refine wpList_plain rfl fun Y y'=>?_;go_simp;refine y' _ _ ?_;clear y' Y)
   refine wpList_built rfl _ _ rfl #[.int .i64 (-1),.int .i64 q] (by kernel_rfl) ?_
   iterate 2 (refine wpList_plain rfl fun Y y'=>?_;go_simp;refine y' _ _ ?_;clear y' Y)
   refine plain_store rfl _ _ _ rfl y2 ([.int .i64 (-1),.int .i64 q]) rfl rfl (HB2.out) (by kernel_rfl) rfl ((by simp [Value.oneCell'])) ?_
   have HRR:=hid ((HB2.out).setRow ([.int .i64 (-1),.int .i64 q]))
   have HXX:=hid (show Ext w ((w2).setRow y2 ([.int .i64 (-1),.int .i64 q]).toArray) from below_setRow (HX2.out) ((by have:=HN.out;omega)) _)
   go_simp
   generalize (w2).setRow y2 ([.int .i64 (-1),.int .i64 q]).toArray = wend at *
   (refine wpList_plain rfl fun Y y'=>?_;go_simp;refine y' _ _ ?_;clear y' Y)
   apply wpList_nil
   go_wp2_with fail
   exact bodyPost_ret (results_row1 rfl rfl HRR.out Tryz.underlying73 rfl (by kernel_rfl)) rfl (⟨rfl,HXX.out⟩)
  ·have hd:decide (0 ≤ q) = false:=decide_eq_false hq
   rw [hd]
   have hge:(q ≥ 0) = False:=by simp only [ge_iff_le,eq_iff_iff,iff_false];exact hq
   clear hd hq
   have hbx:=boxes3 w (dcells (hv A)) 28 ([.bool true,.string s]) 86 ([.int .i64 0,.int .i64 0]) 73
   have HBX:=hid hbx
   clear hbx
   go_enter Tryz.func97,Tryz.ntmps97
   go_upto_region 1 with fail
   generalize ((w.alloc (.cells (dcells (hv A)).toArray 28)).alloc (.cells ([.bool true,.string s]).toArray 86)).alloc (.cells ([.int .i64 0,.int .i64 0]).toArray 73) = w1 at *
   obtain ⟨y0,hy0⟩:∃ x,w.heap.size = x:=⟨_,rfl⟩
   obtain ⟨y1,hy1⟩:∃ x,y0 + 1 = x:=⟨_,rfl⟩
   obtain ⟨y2,hy2⟩:∃ x,y1 + 1 = x:=⟨_,rfl⟩
   rw [hy0,hy1,hy2] at HBX
   simp only [hy0,hy1,hy2]
   have HN:=hid (show w.heap.size = y0 ∧ y0 + 1 = y1 ∧ y1 + 1 = y2 from ⟨hy0,hy1,hy2⟩)
   have HX:=hid HBX.out.1
   have H0:=hid HBX.out.2.1
   have H1:=hid HBX.out.2.2.1
   have H2:=hid HBX.out.2.2.2
   clear hy0 hy1 hy2 HBX
   have k0:=H1.out.cell (i:=0) rfl
   have k1:=H1.out.cell (i:=1) rfl
   go_upto_region 3 with fail
   apply wp_region_lit
   refine plain_load rfl _ _ rfl y0 rfl _ _ (H0.out) Tryz.underlying28 rfl (by kernel_rfl) ?_
   go_simp
   iterate 2 (refine wpList_plain rfl fun Y y'=>?_;go_simp;refine y' _ _ ?_;clear y' Y)
   refine wpList_plain rfl fun K1 hK1=>?_
   go_simp
   refine (HI.out w1 HX.out).mono ?_;rintro e w2 ⟨rfl,hx2⟩
   go_simp
   refine hK1 _ _ ?_
   clear hK1 K1
   (refine wpList_plain rfl fun Y y'=>?_;go_simp;refine y' _ _ ?_;clear y' Y)
   apply wpList_nil
   have HX2:=hid (HX.out.trans hx2)
   have HB2:=hid (H2.out.ext hx2)
   clear hx2 HX H0 H1 H2 HI HP k0 k1
   go_upto_region 4 with fail
   apply wp_region_lit
   (refine wpList_plain rfl fun Y y'=>?_;go_simp;refine y' _ _ ?_;clear y' Y)
   refine wpList_built rfl _ _ rfl #[.int .i64 (-1),.int .i64 q] (by kernel_rfl) ?_
   iterate 2 (refine wpList_plain rfl fun Y y'=>?_;go_simp;refine y' _ _ ?_;clear y' Y)
   refine plain_store rfl _ _ _ rfl y2 ([.int .i64 (-1),.int .i64 q]) rfl rfl (HB2.out) (by kernel_rfl) rfl ((by simp [Value.oneCell'])) ?_
   have HRR:=hid ((HB2.out).setRow ([.int .i64 (-1),.int .i64 q]))
   have HXX:=hid (show Ext w ((w2).setRow y2 ([.int .i64 (-1),.int .i64 q]).toArray) from below_setRow (HX2.out) ((by have:=HN.out;omega)) _)
   go_simp
   generalize (w2).setRow y2 ([.int .i64 (-1),.int .i64 q]).toArray = wend at *
   (refine wpList_plain rfl fun Y y'=>?_;go_simp;refine y' _ _ ?_;clear y' Y)
   apply wpList_nil
   go_wp2_with fail
   exact bodyPost_ret (results_row1 rfl rfl HRR.out Tryz.underlying73 rfl (by kernel_rfl)) rfl (⟨rfl,HXX.out⟩)
end

end Go.Proofs.YtkmbnghghbfkdaaGreat
