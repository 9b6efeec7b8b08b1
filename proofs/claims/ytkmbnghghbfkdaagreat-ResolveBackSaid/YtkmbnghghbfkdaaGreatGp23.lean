/- The names of a dictionary, and variables: made. -/
import Derived.Test.YtkmbnghghbfkdaaGreatGp22
set_option linter.unusedSimpArgs false
set_option linter.unusedVariables false
set_option maxHeartbeats 2000000
set_option maxRecDepth 100000
namespace Go.Proofs.YtkmbnghghbfkdaaGreat
open Go.Lib (hid)

section
open Go.RowKit Go.Shelf Go.Sort
attribute [local go_sem] Oper.semAt_some wide_fn wide_depth
def VarsAt (w:World) (m:Nat) (V:List ByteArray):Prop:=∃ kv,MapAt .string w m kv ∧ KvIs V kv
theorem VarsAt.ext {w w':World} {m:Nat} {V:List ByteArray} (h:VarsAt w m V) (hx:Ext w w'):VarsAt w' m V:=by
 obtain ⟨kv,h1,h2⟩:=h
 exact ⟨kv,h1.ext hx,h2⟩
theorem VarsAt.kept {w w':World} {m:Nat} {V:List ByteArray} {row:Option Nat} (h:VarsAt w m V) (hg:w.grownBy w' row) (hne:row ≠ some m):VarsAt w' m V:=by
 obtain ⟨kv,h1,h2⟩:=h
 exact ⟨kv,h1.kept hg hne,h2⟩
theorem VarsAt.lt {w:World} {m:Nat} {V:List ByteArray} (h:VarsAt w m V):m < w.heap.size:=by
 obtain ⟨kv,h1,h2⟩:=h
 exact h1.lt
theorem nm_one (A:Heads) (m:Nat) (a:Option Addr) (n c:Nat):∀ v ∈ nmL (hv A) m (.slice a n c),v.oneCell' = true:=by
 simp [nmL,dcells,hv,Value.oneCell']
theorem vars_put {w:World} {m:Nat} {V:List ByteArray} (h:VarsAt w m V) (s:ByteArray) (q:Int) (hq:q = V.length) :
 ∃ w',(Instr.mapUpdate 96 (.map (some m)) (.string s) (.int .i64 q)).run Tryz.prog w = .ok () w' ∧ VarsAt w' m (V ++ [s]) ∧ w.grownBy w' (some m):=by
 subst hq
 obtain ⟨kv,h1,h2⟩:=h
 by_cases hs:s ∈ V
 ·obtain ⟨j,i,h3,_⟩:=h2.2 s hs
  obtain ⟨w',r1,r2,r3,_⟩:=run_put_old (P:=Tryz.prog) Tryz.underlying96 Tryz.underlying9 h1 (isKey_str s) h3 (.int .i64 V.length)
  exact ⟨w',r1,⟨_,r2,h2.old h3⟩,r3⟩
 ·obtain ⟨w',r1,r2,r3,_⟩:=run_put_new (P:=Tryz.prog) Tryz.underlying96 Tryz.underlying9 h1 (isKey_str s) (fun p hp e=>by
   obtain ⟨t,e',ht⟩:=h2.1 p hp
   rw [e] at e'
   cases e'
   exact hs ht) (.int .i64 V.length)
  exact ⟨w',r1,⟨_,r2,h2.new hs⟩,r3⟩
theorem vars_get {w:World} {m:Nat} {V:List ByteArray} (h:VarsAt w m V) {s:ByteArray} (hs:s ∈ V):∃ i:Nat,V[i]? = some s ∧ ∀ w',Ext w w' → (Instr.lookup 96 (.map (some m)) (.string s) false).run Tryz.prog w' = .ok (.int .i64 i) w':=by
 obtain ⟨kv,h1,h2⟩:=h
 obtain ⟨j,i,h3,h4⟩:=h2.2 s hs
 exact ⟨i,h4,fun w' hx=>run_get_yes (P:=Tryz.prog) Tryz.underlying96 Tryz.underlying9 (h1.ext hx) (isKey_str s) h3 false⟩
theorem of_any' (A:Heads) (w:World) (a:Option Addr) (c:Nat) (V:List ByteArray) (hV:Strs w (.slice a V.length c) V) (hl:V.length ≤ 1000000) :
 Calls Tryz.prog 43 #[dv (hv A),.slice a V.length c] w fun e w'=>∃ m,e = .returned (nmV (hv A) m (.slice a V.length c)) ∧ VarsAt w' m V ∧ Ext w w':=by
 have hmm:=@run_makeMap Tryz.prog
 have hx0:=(Ext.alloc w (.cells (dcells (hv A)).toArray 28)).trans (Ext.alloc (w.alloc (.cells (dcells (hv A)).toArray 28)) (.cells #[.slice none 0 0,.slice none 0 0,.slice none 0 0,.slice none 0 0,.slice none 0 0,.slice none 0 0,.slice none 0 0,.slice none 0 0,.slice none 0 0,.slice none 0 0,.map none,.slice none 0 0] 98))
 have hb0:=(RowAt.new w 28 (dcells (hv A))).ext (Ext.alloc (w.alloc (.cells (dcells (hv A)).toArray 28)) (.cells #[.slice none 0 0,.slice none 0 0,.slice none 0 0,.slice none 0 0,.slice none 0 0,.slice none 0 0,.slice none 0 0,.slice none 0 0,.slice none 0 0,.slice none 0 0,.map none,.slice none 0 0] 98))
 have hb1:RowAt ((w.alloc (.cells (dcells (hv A)).toArray 28)).alloc (.cells #[.slice none 0 0,.slice none 0 0,.slice none 0 0,.slice none 0 0,.slice none 0 0,.slice none 0 0,.slice none 0 0,.slice none 0 0,.slice none 0 0,.slice none 0 0,.map none,.slice none 0 0] 98)) (w.heap.size + 1) 98 [.slice none 0 0,.slice none 0 0,.slice none 0 0,.slice none 0 0,.slice none 0 0,.slice none 0 0,.slice none 0 0,.slice none 0 0,.slice none 0 0,.slice none 0 0,.map none,.slice none 0 0]:=row_at (xs:=[.slice none 0 0,.slice none 0 0,.slice none 0 0,.slice none 0 0,.slice none 0 0,.slice none 0 0,.slice none 0 0,.slice none 0 0,.slice none 0 0,.slice none 0 0,.map none,.slice none 0 0]) (by simp)
 have HX:=hid hx0
 have HB:=hid hb0
 have HR:=hid hb1
 have HV:=hid hV
 clear hx0 hb0 hb1 hV
 unfold dv
 go_enter Tryz.func43,Tryz.ntmps43
 go_upto_region 1 with fail
 generalize (w.alloc (.cells (dcells (hv A)).toArray 28)).alloc (.cells #[.slice none 0 0,.slice none 0 0,.slice none 0 0,.slice none 0 0,.slice none 0 0,.slice none 0 0,.slice none 0 0,.slice none 0 0,.slice none 0 0,.slice none 0 0,.map none,.slice none 0 0] 98) = w1 at *
 obtain ⟨y,hy⟩:∃ y,w.heap.size = y:=⟨_,rfl⟩
 obtain ⟨yr,hyr⟩:∃ x,y + 1 = x:=⟨_,rfl⟩
 rw [hy] at HB HR
 rw [hyr] at HR
 simp only [hy,hyr]
 have HN:=hid (show w.heap.size = y ∧ y + 1 = yr from ⟨hy,hyr⟩)
 clear hy hyr
 apply wp_region_lit
 refine plain_load rfl _ _ rfl y rfl _ _ (HB.out) Tryz.underlying28 rfl (by kernel_rfl) ?_
 go_simp
 (refine wpList_plain rfl fun Y y'=>?_;go_simp;refine y' _ _ ?_;clear y' Y)
 have hxm:=Ext.alloc w1 (.map #[] 0)
 have hvm:VarsAt (w1.alloc (.map #[] 0)) w1.heap.size []:=⟨[],MapAt.new .string w1,KvIs.nil⟩
 have hym:yr < w1.heap.size:=HR.out.lt
 have HX2:=hid (HX.out.trans hxm)
 have HM2:=hid hvm
 have HR2:=hid (HR.out.ext hxm)
 clear hxm hvm hmm HX HB HR
 generalize w1.alloc (.map #[] 0) = w2 at *
 generalize w1.heap.size = m at *
 (refine wpList_plain rfl fun Y y'=>?_;go_simp;refine y' _ _ ?_;clear y' Y)
 refine wpList_built rfl _ _ rfl (nmL (hv A) m (.slice a V.length c)).toArray (by kernel_rfl) ?_
 go_simp
 (refine wpList_plain rfl fun Y y'=>?_;go_simp;refine y' _ _ ?_;clear y' Y)
 have hx3:=Ext.alloc w2 (.cells #[.slice none 0 0,.slice none 0 0,.slice none 0 0,.slice none 0 0,.slice none 0 0,.slice none 0 0,.slice none 0 0,.slice none 0 0,.slice none 0 0,.slice none 0 0,.map none,.slice none 0 0] 98)
 have hn3:RowAt (w2.alloc (.cells #[.slice none 0 0,.slice none 0 0,.slice none 0 0,.slice none 0 0,.slice none 0 0,.slice none 0 0,.slice none 0 0,.slice none 0 0,.slice none 0 0,.slice none 0 0,.map none,.slice none 0 0] 98)) w2.heap.size 98 [.slice none 0 0,.slice none 0 0,.slice none 0 0,.slice none 0 0,.slice none 0 0,.slice none 0 0,.slice none 0 0,.slice none 0 0,.slice none 0 0,.slice none 0 0,.map none,.slice none 0 0]:=RowAt.new _ _ _
 have hmy:=HM2.out.lt
 have HX3:=hid (HX2.out.trans hx3)
 have HM3:=hid (HM2.out.ext hx3)
 have HR3:=hid (HR2.out.ext hx3)
 have HN3:=hid hn3
 have hle:=HX2.out.size
 clear hx3 hn3 HX2 HM2 HR2
 generalize w2.alloc (.cells #[.slice none 0 0,.slice none 0 0,.slice none 0 0,.slice none 0 0,.slice none 0 0,.slice none 0 0,.slice none 0 0,.slice none 0 0,.slice none 0 0,.slice none 0 0,.map none,.slice none 0 0] 98) = w3 at *
 generalize w2.heap.size = yn at *
 refine plain_store rfl _ _ _ rfl yn (nmL (hv A) m (.slice a V.length c)) rfl rfl (HN3.out) (by kernel_rfl) rfl (nm_one A m a V.length c) ?_
 go_simp
 have hg4:=setRow_grown w3 yn (nmL (hv A) m (.slice a V.length c)).toArray
 have HX4:=hid (show Ext w (w3.setRow yn (nmL (hv A) m (.slice a V.length c)).toArray) from below_setRow HX3.out hle _)
 have HM4:=hid (HM3.out.kept hg4 (fun e=>by have:=Option.some.inj e;omega))
 have HR4:=hid (HR3.out.kept hg4 (fun e=>by have:=Option.some.inj e;omega))
 have HN4:=hid (HN3.out.setRow (nmL (hv A) m (.slice a V.length c)))
 have HNE:=hid (show m ≠ yn ∧ m ≠ yr ∧ yr ≠ yn ∧ w.heap.size ≤ m ∧ w.heap.size ≤ yr by have:=HN.out;omega)
 clear hg4 HX3 HM3 HR3 HN3 hle hmy hym HN
 generalize w3.setRow yn (nmL (hv A) m (.slice a V.length c)).toArray = w4 at *
 apply wpList_nil
 go_wp2_with fail
 go_loopg [14] V.length (fun g i wr=>∃ k:Nat,k ≤ V.length ∧ g = V.length - k ∧ i = .int .i64 k ∧ Ext w wr ∧ VarsAt wr m (V.take k) ∧ RowAt wr yn 98 (nmL (hv A) m (.slice a V.length c)) ∧ RowAt wr yr 98 [.slice none 0 0,.slice none 0 0,.slice none 0 0,.slice none 0 0,.slice none 0 0,.slice none 0 0,.slice none 0 0,.slice none 0 0,.slice none 0 0,.slice none 0 0,.map none,.slice none 0 0])
 case atStart=>exact ⟨0,Nat.zero_le _,rfl,rfl,HX4.out,HM4.out,HN4.out,HR4.out⟩
 case round =>
  obtain ⟨k,hk,hg,rfl,hx,hm,hn,hr⟩:=hrel
  have Hg:=hid hg
  have HX:=hid hx
  have HM:=hid hm
  have HN:=hid hn
  have HR:=hid hr
  clear hg hx hm hn hr
  by_cases hlt:k < V.length
  ·obtain ⟨b,o,rfl,c0⟩:=(HV.out.ext HX.out).at_ hlt
   have hkk:=take_snoc V k hlt
   have hlen:(V.take k).length = k:=by rw [List.length_take];omega
   generalize V[k] = s at *
   obtain ⟨w5,hrun,hm5,hg5⟩:=vars_put HM.out s k (by rw [hlen])
   have HM5:Hid (VarsAt w5 m (V.take (k + 1))):=hid (by rw [hkk];exact hm5)
   have HX5:=hid (show Ext w w5 from HX.out.grown hg5 HX.out.size (fun r e=>by have:=Option.some.inj e;have:=HNE.out;omega))
   have HN5:=hid (HN.out.kept hg5 (fun e=>by have:=Option.some.inj e;have:=HNE.out;omega))
   have HR5:=hid (HR.out.kept hg5 (fun e=>by have:=Option.some.inj e;have:=HNE.out;omega))
   obtain ⟨d0,d1⟩:=nm_map HN.out
   clear hm5 hg5 hkk hlen HX HM HN HR
   go_wp2_with fail
   go_roundg (V.length - (k + 1))
   case measure=>have:=Hg.out;omega
   case rel=>exact ⟨k + 1,by omega,rfl,by first | rfl | go_num,HX5.out,HM5.out,HN5.out,HR5.out⟩
  ·have he:k = V.length:=by omega
   subst he
   have HM9:Hid (VarsAt wr m V):=hid (by have:=HM.out;rwa [List.take_length] at this)
   go_upto_region 7 with fail
   apply wp_region_lit
   refine plain_load rfl _ _ rfl yn rfl _ _ (HN.out) Tryz.underlying98 rfl (by kernel_rfl) ?_
   go_simp
   refine plain_store rfl _ _ _ rfl yr (nmL (hv A) m (.slice a V.length c)) rfl rfl (HR.out) (by kernel_rfl) rfl (nm_one A m a V.length c) ?_
   go_simp
   have hg9:=setRow_grown wr yr (nmL (hv A) m (.slice a V.length c)).toArray
   have HX9:=hid (show Ext w (wr.setRow yr (nmL (hv A) m (.slice a V.length c)).toArray) from below_setRow HX.out (by have:=HNE.out;omega) _)
   have HR9:=hid (HR.out.setRow (nmL (hv A) m (.slice a V.length c)))
   replace HM9:=hid (HM9.out.kept hg9 (fun e=>by have:=Option.some.inj e;have:=HNE.out;omega))
   clear hg9 HX HM HN HR
   generalize wr.setRow yr (nmL (hv A) m (.slice a V.length c)).toArray = w9 at *
   apply wpList_nil
   go_wp2_with fail
   exact bodyPost_ret (results_row0 rfl rfl HR9.out Tryz.underlying98 rfl (by kernel_rfl)) rfl ⟨m,rfl,HM9.out,HX9.out⟩
end

/- A term's argument, an argument's term. -/
section
open Go.RowKit Go.Shelf Go.Sort
attribute [local go_sem] Oper.semAt_some wide_fn wide_depth
theorem boxes3 (w:World) (xs:List Value) (t:TypeId) (ys:List Value) (u:TypeId) (zs:List Value) (v:TypeId) :
 Ext w (((w.alloc (.cells xs.toArray t)).alloc (.cells ys.toArray u)).alloc (.cells zs.toArray v)) ∧ RowAt (((w.alloc (.cells xs.toArray t)).alloc (.cells ys.toArray u)).alloc (.cells zs.toArray v)) w.heap.size t xs ∧
  RowAt (((w.alloc (.cells xs.toArray t)).alloc (.cells ys.toArray u)).alloc (.cells zs.toArray v)) (w.heap.size + 1) u ys ∧ RowAt (((w.alloc (.cells xs.toArray t)).alloc (.cells ys.toArray u)).alloc (.cells zs.toArray v)) (w.heap.size + 1 + 1) v zs :=
 ⟨((Ext.alloc _ _).trans (Ext.alloc _ _)).trans (Ext.alloc _ _),((RowAt.new _ _ _).ext (Ext.alloc _ _)).ext (Ext.alloc _ _),(row_at (by simp)).ext (Ext.alloc _ _),row_at (by simp)⟩
def argV (x:Arg):Value:=.agg #[.int .i64 x.var,.int .i64 x.id]
theorem narg_key (vs:Nat → Value × Value) (m:Nat) (av:Value) (D:Dic) (V:List ByteArray) (w:World) (hV:DicV w vs D) (hS:DicS D) (h:DicOK D) (s:ByteArray) (hs:s.size ≤ 9223372036854775807) :
 Calls Tryz.prog 116 #[nmV vs m av,.agg #[.bool true,.string s]] w fun e w'=>e = outE (argF D V true s) argV ∧ Ext w w':=by
 have hI:=fun w' (hx:Ext w w')=>nid_any vs m av D w' (hV.ext hx) hS h 0 s hs
 have hr:outE (argF D V true s) argV = outE (idO D 0 s) (fun q=>argV ⟨-1,q⟩):=by
  unfold argF idO
  rw [if_pos rfl]
  split <;> rfl
 rw [hr]
 clear hr
 obtain ⟨r,hr⟩:∃ r,idO D 0 s = r:=⟨_,rfl⟩
 rw [hr] at hI ⊢
 clear hr
 have HI:=hid hI
 clear hI
 unfold nmV at *
 cases r with
 | some q =>
  have hbx:=boxes3 w (nmL vs m av) 98 ([.bool true,.string s]) 86 ([.int .i64 0,.int .i64 0]) 73
  have HBX:=hid hbx
  clear hbx
  go_enter Tryz.func116,Tryz.ntmps116
  go_upto_region 1 with fail
  generalize ((w.alloc (.cells (nmL vs m av).toArray 98)).alloc (.cells ([.bool true,.string s]).toArray 86)).alloc (.cells ([.int .i64 0,.int .i64 0]).toArray 73) = w1 at *
  obtain ⟨y0,hy0⟩:∃ x,w.heap.size = x:=⟨_,rfl⟩
  obtain ⟨y1,hy1⟩:∃ x,y0 + 1 = x:=⟨_,rfl⟩
  obtain ⟨y2,hy2⟩:∃ x,y1 + 1 = x:=⟨_,rfl⟩
  rw [hy0,hy1,hy2] at HBX
  simp only [hy0,hy1,hy2]
  have HN:=hid (show w.heap.size = y0 ∧ y0 + 1 = y1 ∧ y1 + 1 = y2 from ⟨hy0,hy1,hy2⟩)
  have HX:=hid HBX.out.1
  have H0:=hid HBX.out.2.1
  have H1:=hid HBX.out.2.2.1
  have H2:=hid HBX.out.2.2.2
  clear hy0 hy1 hy2 HBX
  have k0:=H1.out.cell (i:=0) rfl
  have k1:=H1.out.cell (i:=1) rfl
  go_upto_region 2 with fail
  apply wp_region_lit
  refine plain_load rfl _ _ rfl y0 rfl _ _ (H0.out) Tryz.underlying98 rfl (by kernel_rfl) ?_
  go_simp
  iterate 2 (refine wpList_plain rfl fun Y y'=>?_;go_simp;refine y' _ _ ?_;clear y' Y)
  refine wpList_plain rfl fun K1 hK1=>?_
  go_simp
  refine (HI.out w1 HX.out).mono ?_;rintro e w2 ⟨rfl,hx2⟩
  go_simp
  refine hK1 _ _ ?_
  clear hK1 K1
  (refine wpList_plain rfl fun Y y'=>?_;go_simp;refine y' _ _ ?_;clear y' Y)
  have HX2:=hid (HX.out.trans hx2)
  have HB2:=hid (H2.out.ext hx2)
  clear hx2 HX H0 H1 H2 HI k0 k1
  refine plain_store rfl _ _ _ rfl y2 ([.int .i64 (-1),.int .i64 q]) rfl rfl (HB2.out) (by kernel_rfl) rfl ((by simp [Value.oneCell'])) ?_
  have HRR:=hid ((HB2.out).setRow ([.int .i64 (-1),.int .i64 q]))
  have HXX:=hid (show Ext w ((w2).setRow y2 ([.int .i64 (-1),.int .i64 q]).toArray) from below_setRow (HX2.out) ((by have:=HN.out;omega)) _)
  go_simp
  apply wpList_nil
  go_wp2_with fail
  exact bodyPost_ret (results_row0 rfl rfl HRR.out Tryz.underlying73 rfl (by kernel_rfl)) rfl (⟨rfl,HXX.out⟩)
 | none =>
  have hbx:=boxes3 w (nmL vs m av) 98 ([.bool true,.string s]) 86 ([.int .i64 0,.int .i64 0]) 73
  have HBX:=hid hbx
  clear hbx
  go_enter Tryz.func116,Tryz.ntmps116
  go_upto_region 1 with fail
  generalize ((w.alloc (.cells (nmL vs m av).toArray 98)).alloc (.cells ([.bool true,.string s]).toArray 86)).alloc (.cells ([.int .i64 0,.int .i64 0]).toArray 73) = w1 at *
  obtain ⟨y0,hy0⟩:∃ x,w.heap.size = x:=⟨_,rfl⟩
  obtain ⟨y1,hy1⟩:∃ x,y0 + 1 = x:=⟨_,rfl⟩
  obtain ⟨y2,hy2⟩:∃ x,y1 + 1 = x:=⟨_,rfl⟩
  rw [hy0,hy1,hy2] at HBX
  simp only [hy0,hy1,hy2]
  have HN:=hid (show w.heap.size = y0 ∧ y0 + 1 = y1 ∧ y1 + 1 = y2 from ⟨hy0,hy1,hy2⟩)
  have HX:=hid HBX.out.1
  have H0:=hid HBX.out.2.1
  have H1:=hid HBX.out.2.2.1
  have H2:=hid HBX.out.2.2.2
  clear hy0 hy1 hy2 HBX
  have k0:=H1.out.cell (i:=0) rfl
  have k1:=H1.out.cell (i:=1) rfl
  go_upto_region 2 with fail
  apply wp_region_lit
  refine plain_load rfl _ _ rfl y0 rfl _ _ (H0.out) Tryz.underlying98 rfl (by kernel_rfl) ?_
  go_simp
  iterate 2 (refine wpList_plain rfl fun Y y'=>?_;go_simp;refine y' _ _ ?_;clear y' Y)
  refine wpList_plain rfl fun K1 hK1=>?_
  go_simp
  refine (HI.out w1 HX.out).mono ?_;rintro e w2 ⟨rfl,hx2⟩
  unfold outE unknE
  go_wp2_with fail
  exact ⟨rfl,rfl,HX.out.trans hx2⟩
theorem findF_at {V:List ByteArray} (h:Distinct V) {s:ByteArray} {i:Nat} (hi:V[i]? = some s):findF V s = i:=by
 obtain ⟨hl,rfl⟩:=List.getElem?_eq_some_iff.1 hi
 exact findF_distinct h hl
theorem narg_var (vs:Nat → Value × Value) (m:Nat) (av:Value) (D:Dic) (V:List ByteArray) (w:World) (hm:VarsAt w m V) (hd:Distinct V) (s:ByteArray) (hs:s ∈ V) :
 Calls Tryz.prog 116 #[nmV vs m av,.agg #[.bool false,.string s]] w fun e w'=>e = outE (argF D V false s) argV ∧ Ext w w':=by
 have hr:outE (argF D V false s) argV = .returned (.agg #[.int .i64 (findF V s),.int .i64 0]):=rfl
 rw [hr]
 clear hr
 obtain ⟨i,hi,hrun⟩:=vars_get hm hs
 rw [findF_at hd hi]
 have HM:=hid hrun
 clear hrun hi
 unfold nmV at *
 have hbx:=boxes3 w (nmL vs m av) 98 ([.bool false,.string s]) 86 ([.int .i64 0,.int .i64 0]) 73
 have HBX:=hid hbx
 clear hbx
 go_enter Tryz.func116,Tryz.ntmps116
 go_upto_region 1 with fail
 generalize ((w.alloc (.cells (nmL vs m av).toArray 98)).alloc (.cells ([.bool false,.string s]).toArray 86)).alloc (.cells ([.int .i64 0,.int .i64 0]).toArray 73) = w1 at *
 obtain ⟨y0,hy0⟩:∃ x,w.heap.size = x:=⟨_,rfl⟩
 obtain ⟨y1,hy1⟩:∃ x,y0 + 1 = x:=⟨_,rfl⟩
 obtain ⟨y2,hy2⟩:∃ x,y1 + 1 = x:=⟨_,rfl⟩
 rw [hy0,hy1,hy2] at HBX
 simp only [hy0,hy1,hy2]
 have HN:=hid (show w.heap.size = y0 ∧ y0 + 1 = y1 ∧ y1 + 1 = y2 from ⟨hy0,hy1,hy2⟩)
 have HX:=hid HBX.out.1
 have H0:=hid HBX.out.2.1
 have H1:=hid HBX.out.2.2.1
 have H2:=hid HBX.out.2.2.2
 clear hy0 hy1 hy2 HBX
 have hrun:=HM.out w1 HX.out
 clear HM
 have k0:=H1.out.cell (i:=0) rfl
 have k1:=H1.out.cell (i:=1) rfl
 have n0:=(nm_map H0.out).1
 go_upto_region 3 with fail
 apply wp_region_lit
 iterate 6 (refine wpList_plain rfl fun Y y'=>?_;go_simp;refine y' _ _ ?_;clear y' Y)
 clear k0 k1 n0 hrun
 refine plain_store rfl _ _ _ rfl y2 ([.int .i64 i,.int .i64 0]) rfl rfl (H2.out) (by kernel_rfl) rfl ((by simp [Value.oneCell'])) ?_
 have HRR:=hid ((H2.out).setRow ([.int .i64 i,.int .i64 0]))
 have HXX:=hid (show Ext w ((w1).setRow y2 ([.int .i64 i,.int .i64 0]).toArray) from below_setRow (HX.out) ((by have:=HN.out;omega)) _)
 go_simp
 apply wpList_nil
 go_wp2_with fail
 exact bodyPost_ret (results_row0 rfl rfl HRR.out Tryz.underlying73 rfl (by kernel_rfl)) rfl (⟨rfl,HXX.out⟩)
theorem narg_any (vs:Nat → Value × Value) (m:Nat) (av:Value) (D:Dic) (V:List ByteArray) (w:World) (hV:DicV w vs D) (hS:DicS D) (h:DicOK D) (hm:VarsAt w m V) (hd:Distinct V) (k:Bool) (s:ByteArray) (hs:s.size ≤ 9223372036854775807) (hk:k = false → s ∈ V) :
 Calls Tryz.prog 116 #[nmV vs m av,.agg #[.bool k,.string s]] w fun e w'=>e = outE (argF D V k s) argV ∧ Ext w w':=by
 cases k with
 | true=>exact narg_key vs m av D V w hV hS h s hs
 | false=>exact narg_var vs m av D V w hm hd s (hk rfl)
def termV (t:Bool × ByteArray):Value:=.agg #[.bool t.1,.string t.2]
theorem nterm_key (vs:Nat → Value × Value) (m:Nat) (av:Value) (D:Dic) (V:List ByteArray) (w:World) (hV:DicV w vs D) (hS:DicS D) (h:DicOK D) (q:Int) :
 Calls Tryz.prog 118 #[nmV vs m av,.agg #[.int .i64 (-1),.int .i64 q]] w fun e w'=>e = outE (termF D V ⟨-1,q⟩) termV ∧ Ext w w':=by
 have hI:=fun w' (hx:Ext w w')=>nname_any vs m av D w' (hV.ext hx) hS h 0 (by omega) q
 have hr:outE (termF D V ⟨-1,q⟩) termV = outE (nameO D 0 q) (fun s=>termV (true,s)):=by
  unfold termF
  rw [if_pos rfl]
  cases nameO D 0 q <;> rfl
 rw [hr]
 clear hr
 obtain ⟨r,hr⟩:∃ r,nameO D 0 q = r:=⟨_,rfl⟩
 rw [hr] at hI ⊢
 clear hr
 have HI:=hid hI
 clear hI
 unfold nmV at *
 cases r with
 | some s =>
  have hbx:=boxes3 w (nmL vs m av) 98 ([.int .i64 (-1),.int .i64 q]) 73 ([.bool false,.string ⟨#[]⟩]) 86
  have HBX:=hid hbx
  clear hbx
  go_enter Tryz.func118,Tryz.ntmps118
  go_upto_region 1 with fail
  generalize ((w.alloc (.cells (nmL vs m av).toArray 98)).alloc (.cells ([.int .i64 (-1),.int .i64 q]).toArray 73)).alloc (.cells ([.bool false,.string ⟨#[]⟩]).toArray 86) = w1 at *
  obtain ⟨y0,hy0⟩:∃ x,w.heap.size = x:=⟨_,rfl⟩
  obtain ⟨y1,hy1⟩:∃ x,y0 + 1 = x:=⟨_,rfl⟩
  obtain ⟨y2,hy2⟩:∃ x,y1 + 1 = x:=⟨_,rfl⟩
  rw [hy0,hy1,hy2] at HBX
  simp only [hy0,hy1,hy2]
  have HN:=hid (show w.heap.size = y0 ∧ y0 + 1 = y1 ∧ y1 + 1 = y2 from ⟨hy0,hy1,hy2⟩)
  have HX:=hid HBX.out.1
  have H0:=hid HBX.out.2.1
  have H1:=hid HBX.out.2.2.1
  have H2:=hid HBX.out.2.2.2
  clear hy0 hy1 hy2 HBX
  have k0:=H1.out.cell (i:=0) rfl
  have k1:=H1.out.cell (i:=1) rfl
  go_upto_region 2 with fail
  apply wp_region_lit
  refine plain_load rfl _ _ rfl y0 rfl _ _ (H0.out) Tryz.underlying98 rfl (by kernel_rfl) ?_
  go_simp
  iterate 2 (refine wpList_plain rfl fun Y y'=>?_;go_simp;refine y' _ _ ?_;clear y' Y)
  refine wpList_plain rfl fun K1 hK1=>?_
  go_simp
  refine (HI.out w1 HX.out).mono ?_;rintro e w2 ⟨rfl,hx2⟩
  go_simp
  refine hK1 _ _ ?_
  clear hK1 K1
  unfold strV
  (refine wpList_plain rfl fun Y y'=>?_;go_simp;refine y' _ _ ?_;clear y' Y)
  have HX2:=hid (HX.out.trans hx2)
  have HB2:=hid (H2.out.ext hx2)
  clear hx2 HX H0 H1 H2 HI k0 k1
  refine plain_store rfl _ _ _ rfl y2 ([.bool true,.string s]) rfl rfl (HB2.out) (by kernel_rfl) rfl ((by simp [Value.oneCell'])) ?_
  have HRR:=hid ((HB2.out).setRow ([.bool true,.string s]))
  have HXX:=hid (show Ext w ((w2).setRow y2 ([.bool true,.string s]).toArray) from below_setRow (HX2.out) ((by have:=HN.out;omega)) _)
  go_simp
  apply wpList_nil
  go_wp2_with fail
  exact bodyPost_ret (results_row0 rfl rfl HRR.out Tryz.underlying86 rfl (by kernel_rfl)) rfl (⟨rfl,HXX.out⟩)
 | none =>
  have hbx:=boxes3 w (nmL vs m av) 98 ([.int .i64 (-1),.int .i64 q]) 73 ([.bool false,.string ⟨#[]⟩]) 86
  have HBX:=hid hbx
  clear hbx
  go_enter Tryz.func118,Tryz.ntmps118
  go_upto_region 1 with fail
  generalize ((w.alloc (.cells (nmL vs m av).toArray 98)).alloc (.cells ([.int .i64 (-1),.int .i64 q]).toArray 73)).alloc (.cells ([.bool false,.string ⟨#[]⟩]).toArray 86) = w1 at *
  obtain ⟨y0,hy0⟩:∃ x,w.heap.size = x:=⟨_,rfl⟩
  obtain ⟨y1,hy1⟩:∃ x,y0 + 1 = x:=⟨_,rfl⟩
  obtain ⟨y2,hy2⟩:∃ x,y1 + 1 = x:=⟨_,rfl⟩
  rw [hy0,hy1,hy2] at HBX
  simp only [hy0,hy1,hy2]
  have HN:=hid (show w.heap.size = y0 ∧ y0 + 1 = y1 ∧ y1 + 1 = y2 from ⟨hy0,hy1,hy2⟩)
  have HX:=hid HBX.out.1
  have H0:=hid HBX.out.2.1
  have H1:=hid HBX.out.2.2.1
  have H2:=hid HBX.out.2.2.2
  clear hy0 hy1 hy2 HBX
  have k0:=H1.out.cell (i:=0) rfl
  have k1:=H1.out.cell (i:=1) rfl
  go_upto_region 2 with fail
  apply wp_region_lit
  refine plain_load rfl _ _ rfl y0 rfl _ _ (H0.out) Tryz.underlying98 rfl (by kernel_rfl) ?_
  go_simp
  iterate 2 (refine wpList_plain rfl fun Y y'=>?_;go_simp;refine y' _ _ ?_;clear y' Y)
  refine wpList_plain rfl fun K1 hK1=>?_
  go_simp
  refine (HI.out w1 HX.out).mono ?_;rintro e w2 ⟨rfl,hx2⟩
  unfold outE unknE
  go_wp2_with fail
  exact ⟨rfl,rfl,HX.out.trans hx2⟩
end

end Go.Proofs.YtkmbnghghbfkdaaGreat
