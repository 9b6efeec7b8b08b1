/- The document: what an atom comes to. -/
import Derived.Test.YtkmbnghghbfkdaaGreatGp41
set_option linter.unusedSimpArgs false
set_option linter.unusedVariables false
set_option maxHeartbeats 2000000
set_option maxRecDepth 100000
namespace Go.Proofs.YtkmbnghghbfkdaaGreat
open Go.Lib (hid)

section
open Go.RowKit Go.Shelf Go.Sort
attribute [local go_sem] Oper.semAt_some wide_fn wide_depth
theorem wpList_not {P:Program} {ops:Array Oper} {rest:List Oper} {o:Oper} {a:Act} {w:World} {Q:Exit → Act → World → Prop} (hw:Region.wanted o (yielded ops a.tmps) = false)
 (h:wpList P ops Q rest (a.put o.dst undef) w):wpList P ops Q (o :: rest) a w :=
 wpList_step fun K hK=>by rw [if_neg (by rw [hw];decide)];exact hK _ _ h
def groA9:Nat → Gro
 | 0=>.read
 | 2=>.read
 | 3=>.grow
 | 4=>.read
 | 6=>.read
 | 7=>.grow
 | _=>.pure
def bndT (D:Dic) (V:List ByteArray) (a:Atm):Bnd × Bool :=
 if a.kind = 1 then (⟨0,0,(argT D V a.fk a.fn).1,(argT D V a.fk a.fn).1⟩,(argT D V a.fk a.fn).2)
 else if a.kind = 2 then (⟨1,idF D 1 a.name,(argT D V a.fk a.fn).1,(argT D V a.fk a.fn).1⟩,(argT D V a.fk a.fn).2 && decide (0 ≤ idF D 1 a.name))
 else if a.kind = 3 then (⟨2,idF D 3 a.name,⟨-1,idF D 4 a.value⟩,(argT D V a.fk a.fn).1⟩,(argT D V a.fk a.fn).2 && decide (0 ≤ idF D 3 a.name) && decide (0 ≤ idF D 4 a.value))
 else (⟨3,idF D 2 a.name,(argT D V a.fk a.fn).1,(argT D V a.tk a.tn).1⟩,(argT D V a.fk a.fn).2 && (argT D V a.tk a.tn).2 && decide (0 ≤ idF D 2 a.name))
theorem bndT_F (D:Dic) (V:List ByteArray) (a:Atm) (hk:a.kind = 1 ∨ a.kind = 2 ∨ a.kind = 3 ∨ a.kind = 4):bndF D V a = if (bndT D V a).2 = true then some (bndT D V a).1 else none:=by
 unfold bndF bndT
 rw [argT_F D V a.fk a.fn,argT_F D V a.tk a.tn]
 obtain ⟨x,xo⟩:=argT D V a.fk a.fn
 obtain ⟨y,yo⟩:=argT D V a.tk a.tn
 dsimp only
 rcases hk with h | h | h | h
 ·simp only [if_pos h]
  cases xo <;> rfl
 ·have h1:¬ a.kind = 1:=by omega
  simp only [if_neg h1,if_pos h]
  by_cases hn:0 ≤ idF D 1 a.name <;> cases xo <;> simp [hn]
 ·have h1:¬ a.kind = 1:=by omega
  have h2:¬ a.kind = 2:=by omega
  simp only [if_neg h1,if_neg h2,if_pos h]
  by_cases hn:0 ≤ idF D 3 a.name <;> by_cases hn':0 ≤ idF D 4 a.value <;> cases xo <;> simp [hn,hn']
 ·have h1:¬ a.kind = 1:=by omega
  have h2:¬ a.kind = 2:=by omega
  have h3:¬ a.kind = 3:=by omega
  simp only [if_neg h1,if_neg h2,if_neg h3,if_pos h]
  by_cases hn:0 ≤ idF D 2 a.name <;> cases xo <;> cases yo <;> simp [hn]
theorem dec_yes {n:Int} (h:decide (0 ≤ n) = true):(n ≥ 0) = True:=by simp only [ge_iff_le,eq_iff_iff,iff_true];exact of_decide_eq_true h
theorem dec_no {n:Int} (h:decide (0 ≤ n) = false):(n ≥ 0) = False:=by simp only [ge_iff_le,eq_iff_iff,iff_false];exact of_decide_eq_false h
section
variable (A:Heads) (D:Dic) (V:List ByteArray) (vv:Value) (fk:Bool) (fn name value:ByteArray) (tk:Bool) (tn:ByteArray) (w:World)
set_option maxHeartbeats 4000000 in
theorem atomR_1 (hV:DicV w (hv A) D) (hVV:Strs w vv V) :
 Calls Tryz.prog 53 #[.agg (dcells (hv A)).toArray,vv,.agg (atCells ⟨1,fk,fn,name,value,tk,tn⟩).toArray] w fun e w'=>e = .returned (.tuple #[.agg #[.int .i64 0,.int .i64 0,.int .i64 (argT D V fk fn).1.var,.int .i64 (argT D V fk fn).1.id,.int .i64 (argT D V fk fn).1.var,.int .i64 (argT D V fk fn).1.id],.bool (argT D V fk fn).2]) ∧ Ext w w':=by
 have hc0:=fun w' (hx:Ext w w')=>argR_any A D V vv fk fn w' (hV.ext hx) (Strs.ext hVV hx)
 obtain ⟨X,hX⟩:∃ X,argT D V fk fn = X:=⟨_,rfl⟩
 rw [hX] at hc0
 try rw [hX]
 clear hX
 obtain ⟨⟨x1,x2⟩,xo⟩:=X
 dsimp only at hc0
 try dsimp only
 have HC0:=hid hc0
 clear hc0 hV hVV
 unfold atCells
 dsimp only
 have hbx:=boxes3 w (dcells (hv A)) 28 ([.int .i64 1,.bool fk,.string fn,.string name,.string value,.bool tk,.string tn]) 88 ([.int .i64 0,.int .i64 0,.int .i64 0,.int .i64 0,.int .i64 0,.int .i64 0]) 75
 have HBX:=hid hbx
 clear hbx
 go_enter Tryz.func53,Tryz.ntmps53
 go_upto_region 1 with fail
 generalize ((w.alloc (.cells (dcells (hv A)).toArray 28)).alloc (.cells ([.int .i64 1,.bool fk,.string fn,.string name,.string value,.bool tk,.string tn]).toArray 88)).alloc (.cells ([.int .i64 0,.int .i64 0,.int .i64 0,.int .i64 0,.int .i64 0,.int .i64 0]).toArray 75) = w1 at *
 obtain ⟨y0,hy0⟩:∃ x,w.heap.size = x:=⟨_,rfl⟩
 obtain ⟨y1,hy1⟩:∃ x,y0 + 1 = x:=⟨_,rfl⟩
 obtain ⟨y2,hy2⟩:∃ x,y1 + 1 = x:=⟨_,rfl⟩
 rw [hy0,hy1,hy2] at HBX
 simp only [hy0,hy1,hy2]
 have HN:=hid (show w.heap.size = y0 ∧ y0 + 1 = y1 ∧ y1 + 1 = y2 from ⟨hy0,hy1,hy2⟩)
 have HX:=hid HBX.out.1
 have H0:=hid HBX.out.2.1
 have H1:=hid HBX.out.2.2.1
 have H2:=hid HBX.out.2.2.2
 clear hy0 hy1 hy2 HBX
 have k1:=H1.out.cell (i:=1) rfl
 have k2:=H1.out.cell (i:=2) rfl
 apply wp_region_lit
 refine plain_load rfl _ _ rfl y0 rfl _ _ (H0.out) Tryz.underlying28 rfl (by kernel_rfl) ?_
 go_simp
 iterate 3 (refine wpList_plain rfl fun Y y'=>?_;go_simp;refine y' _ _ ?_;clear y' Y)
 refine wpList_plain rfl fun K1 hK1=>?_
 go_simp
 refine (HC0.out w1 HX.out).mono ?_;rintro e w2 ⟨rfl,hx2⟩
 go_simp
 refine hK1 _ _ ?_
 clear hK1 K1
 iterate 4 (refine wpList_plain rfl fun Y y'=>?_;go_simp;refine y' _ _ ?_;clear y' Y)
 have hax:=Ext.alloc w2 (.cells #[.int .i64 0,.int .i64 0] 73)
 have har:RowAt (w2.alloc (.cells #[.int .i64 0,.int .i64 0] 73)) w2.heap.size 73 (#[.int .i64 0,.int .i64 0]).toList:=RowAt.new _ _ _
 refine plain_store rfl _ _ _ rfl w2.heap.size ([.int .i64 x1,.int .i64 x2]) rfl rfl har (by kernel_rfl) rfl ((by simp [Value.oneCell'])) ?_
 have hex:Ext w2 ((w2.alloc (.cells #[.int .i64 0,.int .i64 0] 73)).setRow w2.heap.size ([.int .i64 x1,.int .i64 x2]).toArray):=below_setRow hax (Nat.le_refl _) _
 have HEw3:=hid hex
 have HRx:=hid (har.setRow ([.int .i64 x1,.int .i64 x2]))
 clear hax har hex
 go_simp
 generalize (w2.alloc (.cells #[.int .i64 0,.int .i64 0] 73)).setRow w2.heap.size ([.int .i64 x1,.int .i64 x2]).toArray = w3 at *
 obtain ⟨x,hsx⟩:∃ x,w2.heap.size = x:=⟨_,rfl⟩
 rw [hsx] at HRx
 simp only [hsx]
 have HSx:=hid hsx
 clear hsx
 (refine wpList_plain rfl fun Y y'=>?_;go_simp;refine y' _ _ ?_;clear y' Y)
 apply wpList_nil
 have hx3:=hx2.trans HEw3.out
 have HX3:=hid (HX.out.trans hx3)
 have G0:=hid (H0.out.ext hx3)
 have G1:=hid (H1.out.ext hx3)
 have HB2:=hid (H2.out.ext hx3)
 have HAX:=hid (show RowAt w3 x 73 [.int .i64 x1,.int .i64 x2] from HRx.out)
 clear hx2 hx3 HX H0 H1 H2 HEw3 HRx HSx HC0 k1 k2
 have k0:=G1.out.cell (i:=0) rfl
 have k1:=G1.out.cell (i:=1) rfl
 have k2:=G1.out.cell (i:=2) rfl
 have k3:=G1.out.cell (i:=3) rfl
 have k4:=G1.out.cell (i:=4) rfl
 have k5:=G1.out.cell (i:=5) rfl
 have k6:=G1.out.cell (i:=6) rfl
 go_upto_region 4 with fail
 apply wp_region_lit
 refine plain_load rfl _ _ rfl x rfl _ _ (HAX.out) Tryz.underlying73 rfl (by kernel_rfl) ?_
 go_simp
 refine plain_load rfl _ _ rfl x rfl _ _ (HAX.out) Tryz.underlying73 rfl (by kernel_rfl) ?_
 go_simp
 refine wpList_built rfl _ _ rfl #[.int .i64 0,.int .i64 0,.int .i64 x1,.int .i64 x2,.int .i64 x1,.int .i64 x2] (by kernel_rfl) ?_
 (refine wpList_plain rfl fun Y y'=>?_;go_simp;refine y' _ _ ?_;clear y' Y)
 refine plain_store rfl _ _ _ rfl y2 ([.int .i64 0,.int .i64 0,.int .i64 x1,.int .i64 x2,.int .i64 x1,.int .i64 x2]) rfl rfl (HB2.out) (by kernel_rfl) rfl ((by simp [Value.oneCell'])) ?_
 have HRR:=hid ((HB2.out).setRow ([.int .i64 0,.int .i64 0,.int .i64 x1,.int .i64 x2,.int .i64 x1,.int .i64 x2]))
 have HXX:=hid (show Ext w ((w3).setRow y2 ([.int .i64 0,.int .i64 0,.int .i64 x1,.int .i64 x2,.int .i64 x1,.int .i64 x2]).toArray) from below_setRow (HX3.out) ((by have:=HN.out;omega)) _)
 go_simp
 generalize (w3).setRow y2 ([.int .i64 0,.int .i64 0,.int .i64 x1,.int .i64 x2,.int .i64 x1,.int .i64 x2]).toArray = wend at *
 (refine wpList_plain rfl fun Y y'=>?_;go_simp;refine y' _ _ ?_;clear y' Y)
 apply wpList_nil
 go_wp2_with fail
 exact bodyPost_ret (results_row1 rfl rfl HRR.out Tryz.underlying75 rfl (by kernel_rfl)) rfl (⟨rfl,HXX.out⟩)
set_option maxHeartbeats 4000000 in
theorem atomR_2 (hV:DicV w (hv A) D) (hVV:Strs w vv V) :
 Calls Tryz.prog 53 #[.agg (dcells (hv A)).toArray,vv,.agg (atCells ⟨2,fk,fn,name,value,tk,tn⟩).toArray] w fun e w'=>e = .returned (.tuple #[.agg #[.int .i64 1,.int .i64 (idF D 1 name),.int .i64 (argT D V fk fn).1.var,.int .i64 (argT D V fk fn).1.id,.int .i64 (argT D V fk fn).1.var,.int .i64 (argT D V fk fn).1.id],.bool ((argT D V fk fn).2 && decide (0 ≤ idF D 1 name))]) ∧ Ext w w':=by
 have HI:=hid (fun w' (hx:Ext w w')=>idR_any A D 1 name w' (hV.ext hx))
 generalize idF D 1 name = n at *
 obtain ⟨nb,hnb⟩:∃ b,decide (0 ≤ n) = b:=⟨_,rfl⟩
 rw [hnb]
 have HNB:=hid hnb
 clear hnb
 have hc0:=fun w' (hx:Ext w w')=>argR_any A D V vv fk fn w' (hV.ext hx) (Strs.ext hVV hx)
 obtain ⟨X,hX⟩:∃ X,argT D V fk fn = X:=⟨_,rfl⟩
 rw [hX] at hc0
 try rw [hX]
 clear hX
 obtain ⟨⟨x1,x2⟩,xo⟩:=X
 dsimp only at hc0
 try dsimp only
 have HC0:=hid hc0
 clear hc0 hV hVV
 unfold atCells
 dsimp only
 have hbx:=boxes3 w (dcells (hv A)) 28 ([.int .i64 2,.bool fk,.string fn,.string name,.string value,.bool tk,.string tn]) 88 ([.int .i64 0,.int .i64 0,.int .i64 0,.int .i64 0,.int .i64 0,.int .i64 0]) 75
 have HBX:=hid hbx
 clear hbx
 go_enter Tryz.func53,Tryz.ntmps53
 go_upto_region 1 with fail
 generalize ((w.alloc (.cells (dcells (hv A)).toArray 28)).alloc (.cells ([.int .i64 2,.bool fk,.string fn,.string name,.string value,.bool tk,.string tn]).toArray 88)).alloc (.cells ([.int .i64 0,.int .i64 0,.int .i64 0,.int .i64 0,.int .i64 0,.int .i64 0]).toArray 75) = w1 at *
 obtain ⟨y0,hy0⟩:∃ x,w.heap.size = x:=⟨_,rfl⟩
 obtain ⟨y1,hy1⟩:∃ x,y0 + 1 = x:=⟨_,rfl⟩
 obtain ⟨y2,hy2⟩:∃ x,y1 + 1 = x:=⟨_,rfl⟩
 rw [hy0,hy1,hy2] at HBX
 simp only [hy0,hy1,hy2]
 have HN:=hid (show w.heap.size = y0 ∧ y0 + 1 = y1 ∧ y1 + 1 = y2 from ⟨hy0,hy1,hy2⟩)
 have HX:=hid HBX.out.1
 have H0:=hid HBX.out.2.1
 have H1:=hid HBX.out.2.2.1
 have H2:=hid HBX.out.2.2.2
 clear hy0 hy1 hy2 HBX
 have k1:=H1.out.cell (i:=1) rfl
 have k2:=H1.out.cell (i:=2) rfl
 apply wp_region_lit
 refine plain_load rfl _ _ rfl y0 rfl _ _ (H0.out) Tryz.underlying28 rfl (by kernel_rfl) ?_
 go_simp
 iterate 3 (refine wpList_plain rfl fun Y y'=>?_;go_simp;refine y' _ _ ?_;clear y' Y)
 refine wpList_plain rfl fun K1 hK1=>?_
 go_simp
 refine (HC0.out w1 HX.out).mono ?_;rintro e w2 ⟨rfl,hx2⟩
 go_simp
 refine hK1 _ _ ?_
 clear hK1 K1
 iterate 4 (refine wpList_plain rfl fun Y y'=>?_;go_simp;refine y' _ _ ?_;clear y' Y)
 have hax:=Ext.alloc w2 (.cells #[.int .i64 0,.int .i64 0] 73)
 have har:RowAt (w2.alloc (.cells #[.int .i64 0,.int .i64 0] 73)) w2.heap.size 73 (#[.int .i64 0,.int .i64 0]).toList:=RowAt.new _ _ _
 refine plain_store rfl _ _ _ rfl w2.heap.size ([.int .i64 x1,.int .i64 x2]) rfl rfl har (by kernel_rfl) rfl ((by simp [Value.oneCell'])) ?_
 have hex:Ext w2 ((w2.alloc (.cells #[.int .i64 0,.int .i64 0] 73)).setRow w2.heap.size ([.int .i64 x1,.int .i64 x2]).toArray):=below_setRow hax (Nat.le_refl _) _
 have HEw3:=hid hex
 have HRx:=hid (har.setRow ([.int .i64 x1,.int .i64 x2]))
 clear hax har hex
 go_simp
 generalize (w2.alloc (.cells #[.int .i64 0,.int .i64 0] 73)).setRow w2.heap.size ([.int .i64 x1,.int .i64 x2]).toArray = w3 at *
 obtain ⟨x,hsx⟩:∃ x,w2.heap.size = x:=⟨_,rfl⟩
 rw [hsx] at HRx
 simp only [hsx]
 have HSx:=hid hsx
 clear hsx
 (refine wpList_plain rfl fun Y y'=>?_;go_simp;refine y' _ _ ?_;clear y' Y)
 apply wpList_nil
 have hx3:=hx2.trans HEw3.out
 have HX3:=hid (HX.out.trans hx3)
 have G0:=hid (H0.out.ext hx3)
 have G1:=hid (H1.out.ext hx3)
 have HB2:=hid (H2.out.ext hx3)
 have HAX:=hid (show RowAt w3 x 73 [.int .i64 x1,.int .i64 x2] from HRx.out)
 clear hx2 hx3 HX H0 H1 H2 HEw3 HRx HSx HC0 k1 k2
 have k0:=G1.out.cell (i:=0) rfl
 have k1:=G1.out.cell (i:=1) rfl
 have k2:=G1.out.cell (i:=2) rfl
 have k3:=G1.out.cell (i:=3) rfl
 have k4:=G1.out.cell (i:=4) rfl
 have k5:=G1.out.cell (i:=5) rfl
 have k6:=G1.out.cell (i:=6) rfl
 go_upto_region 6 with fail
 apply wp_region_lit
 refine plain_load rfl _ _ rfl y0 rfl _ _ (G0.out) Tryz.underlying28 rfl (by kernel_rfl) ?_
 go_simp
 iterate 2 (refine wpList_plain rfl fun Y y'=>?_;go_simp;refine y' _ _ ?_;clear y' Y)
 refine wpList_plain rfl fun K1 hK1=>?_
 go_simp
 refine (HI.out w3 HX3.out).mono ?_;rintro e w4 ⟨rfl,hx4⟩
 go_simp
 refine hK1 _ _ ?_
 clear hK1 K1
 (refine wpList_plain rfl fun Y y'=>?_;go_simp;refine y' _ _ ?_;clear y' Y)
 apply wpList_nil
 replace G0:=hid (G0.out.ext hx4)
 replace G1:=hid (G1.out.ext hx4)
 replace HB2:=hid (HB2.out.ext hx4)
 replace HAX:=hid (HAX.out.ext hx4)
 replace HX3:=hid (HX3.out.trans hx4)
 clear hx4 k0 k1 k2 k3 k4 k5 k6
 have k3:=G1.out.cell (i:=3) rfl
 have k4:=G1.out.cell (i:=4) rfl
 have k5:=G1.out.cell (i:=5) rfl
 have k6:=G1.out.cell (i:=6) rfl
 have k0:=G1.out.cell (i:=0) rfl
 have k1:=G1.out.cell (i:=1) rfl
 have k2:=G1.out.cell (i:=2) rfl
 go_upto_region 7 with fail
 apply wp_region_lit
 (refine wpList_plain rfl fun Y y'=>?_;go_simp;refine y' _ _ ?_;clear y' Y)
 refine wpList_built rfl _ _ rfl #[.int .i64 1,.int .i64 n] (by kernel_rfl) ?_
 refine plain_load rfl _ _ rfl x rfl _ _ (HAX.out) Tryz.underlying73 rfl (by kernel_rfl) ?_
 go_simp
 refine plain_load rfl _ _ rfl x rfl _ _ (HAX.out) Tryz.underlying73 rfl (by kernel_rfl) ?_
 go_simp
 refine wpList_built rfl _ _ rfl #[.int .i64 1,.int .i64 n,.int .i64 x1,.int .i64 x2,.int .i64 x1,.int .i64 x2] (by kernel_rfl) ?_
 iterate 2 (refine wpList_plain rfl fun Y y'=>?_;go_simp;refine y' _ _ ?_;clear y' Y)
 cases xo with
 | false =>
  refine wpList_not (by first | rfl | decide | kernel_rfl) ?_
  go_simp
  refine wpList_not (by first | rfl | decide | kernel_rfl) ?_
  go_simp
  (refine wpList_plain rfl fun Y y'=>?_;go_simp;refine y' _ _ ?_;clear y' Y)
  refine plain_store rfl _ _ _ rfl y2 ([.int .i64 1,.int .i64 n,.int .i64 x1,.int .i64 x2,.int .i64 x1,.int .i64 x2]) rfl rfl (HB2.out) (by kernel_rfl) rfl ((by simp [Value.oneCell'])) ?_
  have HRR:=hid ((HB2.out).setRow ([.int .i64 1,.int .i64 n,.int .i64 x1,.int .i64 x2,.int .i64 x1,.int .i64 x2]))
  have HXX:=hid (show Ext w ((w4).setRow y2 ([.int .i64 1,.int .i64 n,.int .i64 x1,.int .i64 x2,.int .i64 x1,.int .i64 x2]).toArray) from below_setRow (HX3.out) ((by have:=HN.out;omega)) _)
  go_simp
  generalize (w4).setRow y2 ([.int .i64 1,.int .i64 n,.int .i64 x1,.int .i64 x2,.int .i64 x1,.int .i64 x2]).toArray = wend at *
  (refine wpList_plain rfl fun Y y'=>?_;go_simp;refine y' _ _ ?_;clear y' Y)
  apply wpList_nil
  go_wp2_with fail
  exact bodyPost_ret (results_row1 rfl rfl HRR.out Tryz.underlying75 rfl (by kernel_rfl)) rfl (⟨rfl,HXX.out⟩)
 | true =>
  cases nb with
  | true =>
   have hge:=dec_yes HNB.out
   iterate 2 (refine wpList_yes (by first|rfl|decide) fun Y y'=>?_;go_simp;refine y' _ _ ?_;clear y' Y)
   (refine wpList_plain rfl fun Y y'=>?_;go_simp;refine y' _ _ ?_;clear y' Y)
   refine plain_store rfl _ _ _ rfl y2 ([.int .i64 1,.int .i64 n,.int .i64 x1,.int .i64 x2,.int .i64 x1,.int .i64 x2]) rfl rfl (HB2.out) (by kernel_rfl) rfl ((by simp [Value.oneCell'])) ?_
   have HRR:=hid ((HB2.out).setRow ([.int .i64 1,.int .i64 n,.int .i64 x1,.int .i64 x2,.int .i64 x1,.int .i64 x2]))
   have HXX:=hid (show Ext w ((w4).setRow y2 ([.int .i64 1,.int .i64 n,.int .i64 x1,.int .i64 x2,.int .i64 x1,.int .i64 x2]).toArray) from below_setRow (HX3.out) ((by have:=HN.out;omega)) _)
   go_simp
   generalize (w4).setRow y2 ([.int .i64 1,.int .i64 n,.int .i64 x1,.int .i64 x2,.int .i64 x1,.int .i64 x2]).toArray = wend at *
   (refine wpList_plain rfl fun Y y'=>?_;go_simp;refine y' _ _ ?_;clear y' Y)
   apply wpList_nil
   go_wp2_with fail
   exact bodyPost_ret (results_row1 rfl rfl HRR.out Tryz.underlying75 rfl (by kernel_rfl)) rfl (⟨rfl,HXX.out⟩)
  | false =>
   have hge:=dec_no HNB.out
   iterate 2 (refine wpList_yes (by first|rfl|decide) fun Y y'=>?_;go_simp;refine y' _ _ ?_;clear y' Y)
   (refine wpList_plain rfl fun Y y'=>?_;go_simp;refine y' _ _ ?_;clear y' Y)
   refine plain_store rfl _ _ _ rfl y2 ([.int .i64 1,.int .i64 n,.int .i64 x1,.int .i64 x2,.int .i64 x1,.int .i64 x2]) rfl rfl (HB2.out) (by kernel_rfl) rfl ((by simp [Value.oneCell'])) ?_
   have HRR:=hid ((HB2.out).setRow ([.int .i64 1,.int .i64 n,.int .i64 x1,.int .i64 x2,.int .i64 x1,.int .i64 x2]))
   have HXX:=hid (show Ext w ((w4).setRow y2 ([.int .i64 1,.int .i64 n,.int .i64 x1,.int .i64 x2,.int .i64 x1,.int .i64 x2]).toArray) from below_setRow (HX3.out) ((by have:=HN.out;omega)) _)
   go_simp
   generalize (w4).setRow y2 ([.int .i64 1,.int .i64 n,.int .i64 x1,.int .i64 x2,.int .i64 x1,.int .i64 x2]).toArray = wend at *
   (refine wpList_plain rfl fun Y y'=>?_;go_simp;refine y' _ _ ?_;clear y' Y)
   apply wpList_nil
   go_wp2_with fail
   exact bodyPost_ret (results_row1 rfl rfl HRR.out Tryz.underlying75 rfl (by kernel_rfl)) rfl (⟨rfl,HXX.out⟩)
set_option maxHeartbeats 4000000 in
theorem atomR_3 (hV:DicV w (hv A) D) (hVV:Strs w vv V) :
 Calls Tryz.prog 53 #[.agg (dcells (hv A)).toArray,vv,.agg (atCells ⟨3,fk,fn,name,value,tk,tn⟩).toArray] w fun e w'=>e = .returned (.tuple #[.agg #[.int .i64 2,.int .i64 (idF D 3 name),.int .i64 (-1),.int .i64 (idF D 4 value),.int .i64 (argT D V fk fn).1.var,.int .i64 (argT D V fk fn).1.id],.bool ((argT D V fk fn).2 && decide (0 ≤ idF D 3 name) && decide (0 ≤ idF D 4 value))]) ∧ Ext w w':=by
 have hmo:Tryz.prog.follows .mixedOrders = true:=by kernel_rfl
 have HI:=hid (fun w' (hx:Ext w w')=>idR_any A D 3 name w' (hV.ext hx))
 have HJ:=hid (fun w' (hx:Ext w w')=>idR_any A D 4 value w' (hV.ext hx))
 generalize idF D 3 name = n at *
 generalize idF D 4 value = v at *
 obtain ⟨nb,hnb⟩:∃ b,decide (0 ≤ n) = b:=⟨_,rfl⟩
 obtain ⟨vb,hvb⟩:∃ b,decide (0 ≤ v) = b:=⟨_,rfl⟩
 rw [hnb,hvb]
 have HNB:=hid hnb
 have HVB:=hid hvb
 clear hnb hvb
 have hc0:=fun w' (hx:Ext w w')=>argR_any A D V vv fk fn w' (hV.ext hx) (Strs.ext hVV hx)
 obtain ⟨X,hX⟩:∃ X,argT D V fk fn = X:=⟨_,rfl⟩
 rw [hX] at hc0
 try rw [hX]
 clear hX
 obtain ⟨⟨x1,x2⟩,xo⟩:=X
 dsimp only at hc0
 try dsimp only
 have HC0:=hid hc0
 clear hc0 hV hVV
 unfold atCells
 dsimp only
 have hbx:=boxes3 w (dcells (hv A)) 28 ([.int .i64 3,.bool fk,.string fn,.string name,.string value,.bool tk,.string tn]) 88 ([.int .i64 0,.int .i64 0,.int .i64 0,.int .i64 0,.int .i64 0,.int .i64 0]) 75
 have HBX:=hid hbx
 clear hbx
 go_enter Tryz.func53,Tryz.ntmps53
 go_upto_region 1 with fail
 generalize ((w.alloc (.cells (dcells (hv A)).toArray 28)).alloc (.cells ([.int .i64 3,.bool fk,.string fn,.string name,.string value,.bool tk,.string tn]).toArray 88)).alloc (.cells ([.int .i64 0,.int .i64 0,.int .i64 0,.int .i64 0,.int .i64 0,.int .i64 0]).toArray 75) = w1 at *
 obtain ⟨y0,hy0⟩:∃ x,w.heap.size = x:=⟨_,rfl⟩
 obtain ⟨y1,hy1⟩:∃ x,y0 + 1 = x:=⟨_,rfl⟩
 obtain ⟨y2,hy2⟩:∃ x,y1 + 1 = x:=⟨_,rfl⟩
 rw [hy0,hy1,hy2] at HBX
 simp only [hy0,hy1,hy2]
 have HN:=hid (show w.heap.size = y0 ∧ y0 + 1 = y1 ∧ y1 + 1 = y2 from ⟨hy0,hy1,hy2⟩)
 have HX:=hid HBX.out.1
 have H0:=hid HBX.out.2.1
 have H1:=hid HBX.out.2.2.1
 have H2:=hid HBX.out.2.2.2
 clear hy0 hy1 hy2 HBX
 have k1:=H1.out.cell (i:=1) rfl
 have k2:=H1.out.cell (i:=2) rfl
 apply wp_region_lit
 refine plain_load rfl _ _ rfl y0 rfl _ _ (H0.out) Tryz.underlying28 rfl (by kernel_rfl) ?_
 go_simp
 iterate 3 (refine wpList_plain rfl fun Y y'=>?_;go_simp;refine y' _ _ ?_;clear y' Y)
 refine wpList_plain rfl fun K1 hK1=>?_
 go_simp
 refine (HC0.out w1 HX.out).mono ?_;rintro e w2 ⟨rfl,hx2⟩
 go_simp
 refine hK1 _ _ ?_
 clear hK1 K1
 iterate 4 (refine wpList_plain rfl fun Y y'=>?_;go_simp;refine y' _ _ ?_;clear y' Y)
 have hax:=Ext.alloc w2 (.cells #[.int .i64 0,.int .i64 0] 73)
 have har:RowAt (w2.alloc (.cells #[.int .i64 0,.int .i64 0] 73)) w2.heap.size 73 (#[.int .i64 0,.int .i64 0]).toList:=RowAt.new _ _ _
 refine plain_store rfl _ _ _ rfl w2.heap.size ([.int .i64 x1,.int .i64 x2]) rfl rfl har (by kernel_rfl) rfl ((by simp [Value.oneCell'])) ?_
 have hex:Ext w2 ((w2.alloc (.cells #[.int .i64 0,.int .i64 0] 73)).setRow w2.heap.size ([.int .i64 x1,.int .i64 x2]).toArray):=below_setRow hax (Nat.le_refl _) _
 have HEw3:=hid hex
 have HRx:=hid (har.setRow ([.int .i64 x1,.int .i64 x2]))
 clear hax har hex
 go_simp
 generalize (w2.alloc (.cells #[.int .i64 0,.int .i64 0] 73)).setRow w2.heap.size ([.int .i64 x1,.int .i64 x2]).toArray = w3 at *
 obtain ⟨x,hsx⟩:∃ x,w2.heap.size = x:=⟨_,rfl⟩
 rw [hsx] at HRx
 simp only [hsx]
 have HSx:=hid hsx
 clear hsx
 (refine wpList_plain rfl fun Y y'=>?_;go_simp;refine y' _ _ ?_;clear y' Y)
 apply wpList_nil
 have hx3:=hx2.trans HEw3.out
 have HX3:=hid (HX.out.trans hx3)
 have G0:=hid (H0.out.ext hx3)
 have G1:=hid (H1.out.ext hx3)
 have HB2:=hid (H2.out.ext hx3)
 have HAX:=hid (show RowAt w3 x 73 [.int .i64 x1,.int .i64 x2] from HRx.out)
 clear hx2 hx3 HX H0 H1 H2 HEw3 HRx HSx HC0 k1 k2
 have k0:=G1.out.cell (i:=0) rfl
 have k1:=G1.out.cell (i:=1) rfl
 have k2:=G1.out.cell (i:=2) rfl
 have k3:=G1.out.cell (i:=3) rfl
 have k4:=G1.out.cell (i:=4) rfl
 have k5:=G1.out.cell (i:=5) rfl
 have k6:=G1.out.cell (i:=6) rfl
 go_upto_region 9 with fail
 refine wp_region_grox [] groA9 [0,1,2,4,5,6,3,7,8,9] hmo (by kernel_rfl) rfl (by kernel_rfl) (fun _ _ _ _ _ h=>h) ?_
 have hxd:Ext w3 w3.drew:=Ext.drewN w3 1
 generalize w3.drew = wd at *
 replace G0:=hid (G0.out.ext hxd)
 replace G1:=hid (G1.out.ext hxd)
 replace HB2:=hid (HB2.out.ext hxd)
 replace HAX:=hid (HAX.out.ext hxd)
 replace HX3:=hid (HX3.out.trans hxd)
 clear hxd k0 k1 k2 k3 k4 k5 k6
 have k3:=G1.out.cell (i:=3) rfl
 have k4:=G1.out.cell (i:=4) rfl
 have k5:=G1.out.cell (i:=5) rfl
 have k6:=G1.out.cell (i:=6) rfl
 have k0:=G1.out.cell (i:=0) rfl
 have k1:=G1.out.cell (i:=1) rfl
 have k2:=G1.out.cell (i:=2) rfl
 refine groX_loadW rfl rfl (by first | rfl | decide | kernel_rfl) _ _ rfl y0 0 rfl _ _ (G0.out).whole (by simp) Tryz.underlying28 rfl (by kernel_rfl) ?_
 repeat (first
  | (refine groX_pure rfl rfl ?_;intro K hK;go_simp;refine hK _ ?_;clear hK K)
  | (refine groX_read rfl rfl ?_;intro K S hS hK;go_simp;refine hK _ ?_;clear hK K hS S)
  | (refine groX_read rfl rfl ?_;intro K S hS hK;go_simp;refine ⟨hS _ ?_,hK _ ?_⟩;(clear hK K hS S;intro w' hx';have hce:=grows_some hx';go_simp);clear hK K hS S))
 refine groX_loadW rfl rfl (by first | rfl | decide | kernel_rfl) _ _ rfl y0 0 rfl _ _ (G0.out).whole (by simp) Tryz.underlying28 rfl (by kernel_rfl) ?_
 repeat (first
  | (refine groX_pure rfl rfl ?_;intro K hK;go_simp;refine hK _ ?_;clear hK K)
  | (refine groX_read rfl rfl ?_;intro K S hS hK;go_simp;refine hK _ ?_;clear hK K hS S)
  | (refine groX_read rfl rfl ?_;intro K S hS hK;go_simp;refine ⟨hS _ ?_,hK _ ?_⟩;(clear hK K hS S;intro w' hx';have hce:=grows_some hx';go_simp);clear hK K hS S))
 refine groX_grow rfl rfl ?_
 intro K hK
 go_simp
 refine (HI.out wd HX3.out).mono ?_;rintro e w4 ⟨rfl,hx4⟩
 go_simp
 refine hK _ _ ⟨Grows.ext hx4,?_⟩
 clear hK K
 replace G0:=hid (G0.out.ext hx4)
 replace G1:=hid (G1.out.ext hx4)
 replace HB2:=hid (HB2.out.ext hx4)
 replace HAX:=hid (HAX.out.ext hx4)
 replace HX3:=hid (HX3.out.trans hx4)
 clear hx4 k0 k1 k2 k3 k4 k5 k6
 have k3:=G1.out.cell (i:=3) rfl
 have k4:=G1.out.cell (i:=4) rfl
 have k5:=G1.out.cell (i:=5) rfl
 have k6:=G1.out.cell (i:=6) rfl
 have k0:=G1.out.cell (i:=0) rfl
 have k1:=G1.out.cell (i:=1) rfl
 have k2:=G1.out.cell (i:=2) rfl
 refine groX_grow rfl rfl ?_
 intro K hK
 go_simp
 refine (HJ.out w4 HX3.out).mono ?_;rintro e wq ⟨rfl,hx5⟩
 go_simp
 refine hK _ _ ⟨Grows.ext hx5,?_⟩
 clear hK K
 replace G0:=hid (G0.out.ext hx5)
 replace G1:=hid (G1.out.ext hx5)
 replace HB2:=hid (HB2.out.ext hx5)
 replace HAX:=hid (HAX.out.ext hx5)
 replace HX3:=hid (HX3.out.trans hx5)
 clear hx5 k0 k1 k2 k3 k4 k5 k6
 have k3:=G1.out.cell (i:=3) rfl
 have k4:=G1.out.cell (i:=4) rfl
 have k5:=G1.out.cell (i:=5) rfl
 have k6:=G1.out.cell (i:=6) rfl
 have k0:=G1.out.cell (i:=0) rfl
 have k1:=G1.out.cell (i:=1) rfl
 have k2:=G1.out.cell (i:=2) rfl
 repeat (first
  | (refine groX_pure rfl rfl ?_;intro K hK;go_simp;refine hK _ ?_;clear hK K)
  | (refine groX_read rfl rfl ?_;intro K S hS hK;go_simp;refine hK _ ?_;clear hK K hS S)
  | (refine groX_read rfl rfl ?_;intro K S hS hK;go_simp;refine ⟨hS _ ?_,hK _ ?_⟩;(clear hK K hS S;intro w' hx';have hce:=grows_some hx';go_simp);clear hK K hS S))
 refine groX_nil ?_
 go_upto_region 10 with fail
 apply wp_region_lit
 (refine wpList_plain rfl fun Y y'=>?_;go_simp;refine y' _ _ ?_;clear y' Y)
 refine wpList_built rfl _ _ rfl #[.int .i64 2,.int .i64 n] (by kernel_rfl) ?_
 (refine wpList_plain rfl fun Y y'=>?_;go_simp;refine y' _ _ ?_;clear y' Y)
 refine wpList_built rfl _ _ rfl #[.int .i64 (-1),.int .i64 v] (by kernel_rfl) ?_
 refine plain_load rfl _ _ rfl x rfl _ _ (HAX.out) Tryz.underlying73 rfl (by kernel_rfl) ?_
 go_simp
 refine wpList_built rfl _ _ rfl #[.int .i64 2,.int .i64 n,.int .i64 (-1),.int .i64 v,.int .i64 x1,.int .i64 x2] (by kernel_rfl) ?_
 iterate 2 (refine wpList_plain rfl fun Y y'=>?_;go_simp;refine y' _ _ ?_;clear y' Y)
 cases xo with
 | false =>
  refine wpList_not (by first | rfl | decide | kernel_rfl) ?_
  go_simp
  refine wpList_not (by first | rfl | decide | kernel_rfl) ?_
  go_simp
  iterate 2 (refine wpList_plain rfl fun Y y'=>?_;go_simp;refine y' _ _ ?_;clear y' Y)
  refine wpList_not (by first | rfl | decide | kernel_rfl) ?_
  go_simp
  refine wpList_not (by first | rfl | decide | kernel_rfl) ?_
  go_simp
  (refine wpList_plain rfl fun Y y'=>?_;go_simp;refine y' _ _ ?_;clear y' Y)
  refine plain_store rfl _ _ _ rfl y2 ([.int .i64 2,.int .i64 n,.int .i64 (-1),.int .i64 v,.int .i64 x1,.int .i64 x2]) rfl rfl (HB2.out) (by kernel_rfl) rfl ((by simp [Value.oneCell'])) ?_
  have HRR:=hid ((HB2.out).setRow ([.int .i64 2,.int .i64 n,.int .i64 (-1),.int .i64 v,.int .i64 x1,.int .i64 x2]))
  have HXX:=hid (show Ext w ((wq).setRow y2 ([.int .i64 2,.int .i64 n,.int .i64 (-1),.int .i64 v,.int .i64 x1,.int .i64 x2]).toArray) from below_setRow (HX3.out) ((by have:=HN.out;omega)) _)
  go_simp
  generalize (wq).setRow y2 ([.int .i64 2,.int .i64 n,.int .i64 (-1),.int .i64 v,.int .i64 x1,.int .i64 x2]).toArray = wend at *
  (refine wpList_plain rfl fun Y y'=>?_;go_simp;refine y' _ _ ?_;clear y' Y)
  apply wpList_nil
  go_wp2_with fail
  exact bodyPost_ret (results_row1 rfl rfl HRR.out Tryz.underlying75 rfl (by kernel_rfl)) rfl (⟨rfl,HXX.out⟩)
 | true =>
  cases nb with
  | false =>
   have hge:=dec_no HNB.out
   iterate 2 (refine wpList_yes (by first|rfl|decide) fun Y y'=>?_;go_simp;refine y' _ _ ?_;clear y' Y)
   iterate 2 (refine wpList_plain rfl fun Y y'=>?_;go_simp;refine y' _ _ ?_;clear y' Y)
   refine wpList_not (by first | rfl | decide | kernel_rfl) ?_
   go_simp
   refine wpList_not (by first | rfl | decide | kernel_rfl) ?_
   go_simp
   (refine wpList_plain rfl fun Y y'=>?_;go_simp;refine y' _ _ ?_;clear y' Y)
   refine plain_store rfl _ _ _ rfl y2 ([.int .i64 2,.int .i64 n,.int .i64 (-1),.int .i64 v,.int .i64 x1,.int .i64 x2]) rfl rfl (HB2.out) (by kernel_rfl) rfl ((by simp [Value.oneCell'])) ?_
   have HRR:=hid ((HB2.out).setRow ([.int .i64 2,.int .i64 n,.int .i64 (-1),.int .i64 v,.int .i64 x1,.int .i64 x2]))
   have HXX:=hid (show Ext w ((wq).setRow y2 ([.int .i64 2,.int .i64 n,.int .i64 (-1),.int .i64 v,.int .i64 x1,.int .i64 x2]).toArray) from below_setRow (HX3.out) ((by have:=HN.out;omega)) _)
   go_simp
   generalize (wq).setRow y2 ([.int .i64 2,.int .i64 n,.int .i64 (-1),.int .i64 v,.int .i64 x1,.int .i64 x2]).toArray = wend at *
   (refine wpList_plain rfl fun Y y'=>?_;go_simp;refine y' _ _ ?_;clear y' Y)
   apply wpList_nil
   go_wp2_with fail
   exact bodyPost_ret (results_row1 rfl rfl HRR.out Tryz.underlying75 rfl (by kernel_rfl)) rfl (⟨rfl,HXX.out⟩)
  | true =>
   have hge:=dec_yes HNB.out
   cases vb with
   | true =>
    have hgv:=dec_yes HVB.out
    iterate 2 (refine wpList_yes (by first|rfl|decide) fun Y y'=>?_;go_simp;refine y' _ _ ?_;clear y' Y)
    iterate 2 (refine wpList_plain rfl fun Y y'=>?_;go_simp;refine y' _ _ ?_;clear y' Y)
    iterate 2 (refine wpList_yes (by first|rfl|decide) fun Y y'=>?_;go_simp;refine y' _ _ ?_;clear y' Y)
    (refine wpList_plain rfl fun Y y'=>?_;go_simp;refine y' _ _ ?_;clear y' Y)
    refine plain_store rfl _ _ _ rfl y2 ([.int .i64 2,.int .i64 n,.int .i64 (-1),.int .i64 v,.int .i64 x1,.int .i64 x2]) rfl rfl (HB2.out) (by kernel_rfl) rfl ((by simp [Value.oneCell'])) ?_
    have HRR:=hid ((HB2.out).setRow ([.int .i64 2,.int .i64 n,.int .i64 (-1),.int .i64 v,.int .i64 x1,.int .i64 x2]))
    have HXX:=hid (show Ext w ((wq).setRow y2 ([.int .i64 2,.int .i64 n,.int .i64 (-1),.int .i64 v,.int .i64 x1,.int .i64 x2]).toArray) from below_setRow (HX3.out) ((by have:=HN.out;omega)) _)
    go_simp
    generalize (wq).setRow y2 ([.int .i64 2,.int .i64 n,.int .i64 (-1),.int .i64 v,.int .i64 x1,.int .i64 x2]).toArray = wend at *
    (refine wpList_plain rfl fun Y y'=>?_;go_simp;refine y' _ _ ?_;clear y' Y)
    apply wpList_nil
    go_wp2_with fail
    exact bodyPost_ret (results_row1 rfl rfl HRR.out Tryz.underlying75 rfl (by kernel_rfl)) rfl (⟨rfl,HXX.out⟩)
   | false =>
    have hgv:=dec_no HVB.out
    iterate 2 (refine wpList_yes (by first|rfl|decide) fun Y y'=>?_;go_simp;refine y' _ _ ?_;clear y' Y)
    iterate 2 (refine wpList_plain rfl fun Y y'=>?_;go_simp;refine y' _ _ ?_;clear y' Y)
    iterate 2 (refine wpList_yes (by first|rfl|decide) fun Y y'=>?_;go_simp;refine y' _ _ ?_;clear y' Y)
    (refine wpList_plain rfl fun Y y'=>?_;go_simp;refine y' _ _ ?_;clear y' Y)
    refine plain_store rfl _ _ _ rfl y2 ([.int .i64 2,.int .i64 n,.int .i64 (-1),.int .i64 v,.int .i64 x1,.int .i64 x2]) rfl rfl (HB2.out) (by kernel_rfl) rfl ((by simp [Value.oneCell'])) ?_
    have HRR:=hid ((HB2.out).setRow ([.int .i64 2,.int .i64 n,.int .i64 (-1),.int .i64 v,.int .i64 x1,.int .i64 x2]))
    have HXX:=hid (show Ext w ((wq).setRow y2 ([.int .i64 2,.int .i64 n,.int .i64 (-1),.int .i64 v,.int .i64 x1,.int .i64 x2]).toArray) from below_setRow (HX3.out) ((by have:=HN.out;omega)) _)
    go_simp
    generalize (wq).setRow y2 ([.int .i64 2,.int .i64 n,.int .i64 (-1),.int .i64 v,.int .i64 x1,.int .i64 x2]).toArray = wend at *
    (refine wpList_plain rfl fun Y y'=>?_;go_simp;refine y' _ _ ?_;clear y' Y)
    apply wpList_nil
    go_wp2_with fail
    exact bodyPost_ret (results_row1 rfl rfl HRR.out Tryz.underlying75 rfl (by kernel_rfl)) rfl (⟨rfl,HXX.out⟩)
set_option maxHeartbeats 4000000 in
theorem atomR_4 (hV:DicV w (hv A) D) (hVV:Strs w vv V) :
 Calls Tryz.prog 53 #[.agg (dcells (hv A)).toArray,vv,.agg (atCells ⟨4,fk,fn,name,value,tk,tn⟩).toArray] w fun e w'=>e = .returned (.tuple #[.agg #[.int .i64 3,.int .i64 (idF D 2 name),.int .i64 (argT D V fk fn).1.var,.int .i64 (argT D V fk fn).1.id,.int .i64 (argT D V tk tn).1.var,.int .i64 (argT D V tk tn).1.id],.bool ((argT D V fk fn).2 && (argT D V tk tn).2 && decide (0 ≤ idF D 2 name))]) ∧ Ext w w':=by
 have HI:=hid (fun w' (hx:Ext w w')=>idR_any A D 2 name w' (hV.ext hx))
 have hc1:=fun w' (hx:Ext w w')=>argR_any A D V vv tk tn w' (hV.ext hx) (Strs.ext hVV hx)
 obtain ⟨Z,hZ⟩:∃ Z,argT D V tk tn = Z:=⟨_,rfl⟩
 rw [hZ] at hc1
 rw [hZ]
 clear hZ
 obtain ⟨⟨z1,z2⟩,zo⟩:=Z
 dsimp only at hc1
 dsimp only
 have HC1:=hid hc1
 clear hc1
 generalize idF D 2 name = n at *
 obtain ⟨nb,hnb⟩:∃ b,decide (0 ≤ n) = b:=⟨_,rfl⟩
 rw [hnb]
 have HNB:=hid hnb
 clear hnb
 have hc0:=fun w' (hx:Ext w w')=>argR_any A D V vv fk fn w' (hV.ext hx) (Strs.ext hVV hx)
 obtain ⟨X,hX⟩:∃ X,argT D V fk fn = X:=⟨_,rfl⟩
 rw [hX] at hc0
 try rw [hX]
 clear hX
 obtain ⟨⟨x1,x2⟩,xo⟩:=X
 dsimp only at hc0
 try dsimp only
 have HC0:=hid hc0
 clear hc0 hV hVV
 unfold atCells
 dsimp only
 have hbx:=boxes3 w (dcells (hv A)) 28 ([.int .i64 4,.bool fk,.string fn,.string name,.string value,.bool tk,.string tn]) 88 ([.int .i64 0,.int .i64 0,.int .i64 0,.int .i64 0,.int .i64 0,.int .i64 0]) 75
 have HBX:=hid hbx
 clear hbx
 go_enter Tryz.func53,Tryz.ntmps53
 go_upto_region 1 with fail
 generalize ((w.alloc (.cells (dcells (hv A)).toArray 28)).alloc (.cells ([.int .i64 4,.bool fk,.string fn,.string name,.string value,.bool tk,.string tn]).toArray 88)).alloc (.cells ([.int .i64 0,.int .i64 0,.int .i64 0,.int .i64 0,.int .i64 0,.int .i64 0]).toArray 75) = w1 at *
 obtain ⟨y0,hy0⟩:∃ x,w.heap.size = x:=⟨_,rfl⟩
 obtain ⟨y1,hy1⟩:∃ x,y0 + 1 = x:=⟨_,rfl⟩
 obtain ⟨y2,hy2⟩:∃ x,y1 + 1 = x:=⟨_,rfl⟩
 rw [hy0,hy1,hy2] at HBX
 simp only [hy0,hy1,hy2]
 have HN:=hid (show w.heap.size = y0 ∧ y0 + 1 = y1 ∧ y1 + 1 = y2 from ⟨hy0,hy1,hy2⟩)
 have HX:=hid HBX.out.1
 have H0:=hid HBX.out.2.1
 have H1:=hid HBX.out.2.2.1
 have H2:=hid HBX.out.2.2.2
 clear hy0 hy1 hy2 HBX
 have k1:=H1.out.cell (i:=1) rfl
 have k2:=H1.out.cell (i:=2) rfl
 apply wp_region_lit
 refine plain_load rfl _ _ rfl y0 rfl _ _ (H0.out) Tryz.underlying28 rfl (by kernel_rfl) ?_
 go_simp
 iterate 3 (refine wpList_plain rfl fun Y y'=>?_;go_simp;refine y' _ _ ?_;clear y' Y)
 refine wpList_plain rfl fun K1 hK1=>?_
 go_simp
 refine (HC0.out w1 HX.out).mono ?_;rintro e w2 ⟨rfl,hx2⟩
 go_simp
 refine hK1 _ _ ?_
 clear hK1 K1
 iterate 4 (refine wpList_plain rfl fun Y y'=>?_;go_simp;refine y' _ _ ?_;clear y' Y)
 have hax:=Ext.alloc w2 (.cells #[.int .i64 0,.int .i64 0] 73)
 have har:RowAt (w2.alloc (.cells #[.int .i64 0,.int .i64 0] 73)) w2.heap.size 73 (#[.int .i64 0,.int .i64 0]).toList:=RowAt.new _ _ _
 refine plain_store rfl _ _ _ rfl w2.heap.size ([.int .i64 x1,.int .i64 x2]) rfl rfl har (by kernel_rfl) rfl ((by simp [Value.oneCell'])) ?_
 have hex:Ext w2 ((w2.alloc (.cells #[.int .i64 0,.int .i64 0] 73)).setRow w2.heap.size ([.int .i64 x1,.int .i64 x2]).toArray):=below_setRow hax (Nat.le_refl _) _
 have HEw3:=hid hex
 have HRx:=hid (har.setRow ([.int .i64 x1,.int .i64 x2]))
 clear hax har hex
 go_simp
 generalize (w2.alloc (.cells #[.int .i64 0,.int .i64 0] 73)).setRow w2.heap.size ([.int .i64 x1,.int .i64 x2]).toArray = w3 at *
 obtain ⟨x,hsx⟩:∃ x,w2.heap.size = x:=⟨_,rfl⟩
 rw [hsx] at HRx
 simp only [hsx]
 have HSx:=hid hsx
 clear hsx
 (refine wpList_plain rfl fun Y y'=>?_;go_simp;refine y' _ _ ?_;clear y' Y)
 apply wpList_nil
 have hx3:=hx2.trans HEw3.out
 have HX3:=hid (HX.out.trans hx3)
 have G0:=hid (H0.out.ext hx3)
 have G1:=hid (H1.out.ext hx3)
 have HB2:=hid (H2.out.ext hx3)
 have HAX:=hid (show RowAt w3 x 73 [.int .i64 x1,.int .i64 x2] from HRx.out)
 clear hx2 hx3 HX H0 H1 H2 HEw3 HRx HSx HC0 k1 k2
 have k0:=G1.out.cell (i:=0) rfl
 have k1:=G1.out.cell (i:=1) rfl
 have k2:=G1.out.cell (i:=2) rfl
 have k3:=G1.out.cell (i:=3) rfl
 have k4:=G1.out.cell (i:=4) rfl
 have k5:=G1.out.cell (i:=5) rfl
 have k6:=G1.out.cell (i:=6) rfl
 go_upto_region 11 with fail
 apply wp_region_lit
 refine plain_load rfl _ _ rfl y0 rfl _ _ (G0.out) Tryz.underlying28 rfl (by kernel_rfl) ?_
 go_simp
 iterate 3 (refine wpList_plain rfl fun Y y'=>?_;go_simp;refine y' _ _ ?_;clear y' Y)
 refine wpList_plain rfl fun K1 hK1=>?_
 go_simp
 refine (HC1.out w3 HX3.out).mono ?_;rintro e w4 ⟨rfl,hx4⟩
 go_simp
 refine hK1 _ _ ?_
 clear hK1 K1
 iterate 4 (refine wpList_plain rfl fun Y y'=>?_;go_simp;refine y' _ _ ?_;clear y' Y)
 have hax:=Ext.alloc w4 (.cells #[.int .i64 0,.int .i64 0] 73)
 have har:RowAt (w4.alloc (.cells #[.int .i64 0,.int .i64 0] 73)) w4.heap.size 73 (#[.int .i64 0,.int .i64 0]).toList:=RowAt.new _ _ _
 refine plain_store rfl _ _ _ rfl w4.heap.size ([.int .i64 z1,.int .i64 z2]) rfl rfl har (by kernel_rfl) rfl ((by simp [Value.oneCell'])) ?_
 have hex:Ext w4 ((w4.alloc (.cells #[.int .i64 0,.int .i64 0] 73)).setRow w4.heap.size ([.int .i64 z1,.int .i64 z2]).toArray):=below_setRow hax (Nat.le_refl _) _
 have HEw5:=hid hex
 have HRz:=hid (har.setRow ([.int .i64 z1,.int .i64 z2]))
 clear hax har hex
 go_simp
 generalize (w4.alloc (.cells #[.int .i64 0,.int .i64 0] 73)).setRow w4.heap.size ([.int .i64 z1,.int .i64 z2]).toArray = w5 at *
 obtain ⟨z,hsz⟩:∃ x,w4.heap.size = x:=⟨_,rfl⟩
 rw [hsz] at HRz
 simp only [hsz]
 have HSz:=hid hsz
 clear hsz
 (refine wpList_plain rfl fun Y y'=>?_;go_simp;refine y' _ _ ?_;clear y' Y)
 apply wpList_nil
 have hx5:=hx4.trans HEw5.out
 have HAZ:=hid (show RowAt w5 z 73 [.int .i64 z1,.int .i64 z2] from HRz.out)
 clear hx4 HEw5 HRz HSz
 replace G0:=hid (G0.out.ext hx5)
 replace G1:=hid (G1.out.ext hx5)
 replace HB2:=hid (HB2.out.ext hx5)
 replace HAX:=hid (HAX.out.ext hx5)
 replace HX3:=hid (HX3.out.trans hx5)
 clear hx5 k0 k1 k2 k3 k4 k5 k6
 have k3:=G1.out.cell (i:=3) rfl
 have k4:=G1.out.cell (i:=4) rfl
 have k5:=G1.out.cell (i:=5) rfl
 have k6:=G1.out.cell (i:=6) rfl
 have k0:=G1.out.cell (i:=0) rfl
 have k1:=G1.out.cell (i:=1) rfl
 have k2:=G1.out.cell (i:=2) rfl
 go_upto_region 12 with fail
 apply wp_region_lit
 refine plain_load rfl _ _ rfl y0 rfl _ _ (G0.out) Tryz.underlying28 rfl (by kernel_rfl) ?_
 go_simp
 iterate 2 (refine wpList_plain rfl fun Y y'=>?_;go_simp;refine y' _ _ ?_;clear y' Y)
 refine wpList_plain rfl fun K1 hK1=>?_
 go_simp
 refine (HI.out w5 HX3.out).mono ?_;rintro e wq ⟨rfl,hx6⟩
 go_simp
 refine hK1 _ _ ?_
 clear hK1 K1
 (refine wpList_plain rfl fun Y y'=>?_;go_simp;refine y' _ _ ?_;clear y' Y)
 apply wpList_nil
 replace HAZ:=hid (HAZ.out.ext hx6)
 replace G0:=hid (G0.out.ext hx6)
 replace G1:=hid (G1.out.ext hx6)
 replace HB2:=hid (HB2.out.ext hx6)
 replace HAX:=hid (HAX.out.ext hx6)
 replace HX3:=hid (HX3.out.trans hx6)
 clear hx6 k0 k1 k2 k3 k4 k5 k6
 have k3:=G1.out.cell (i:=3) rfl
 have k4:=G1.out.cell (i:=4) rfl
 have k5:=G1.out.cell (i:=5) rfl
 have k6:=G1.out.cell (i:=6) rfl
 have k0:=G1.out.cell (i:=0) rfl
 have k1:=G1.out.cell (i:=1) rfl
 have k2:=G1.out.cell (i:=2) rfl
 go_upto_region 13 with fail
 apply wp_region_lit
 (refine wpList_plain rfl fun Y y'=>?_;go_simp;refine y' _ _ ?_;clear y' Y)
 refine wpList_built rfl _ _ rfl #[.int .i64 3,.int .i64 n] (by kernel_rfl) ?_
 refine plain_load rfl _ _ rfl x rfl _ _ (HAX.out) Tryz.underlying73 rfl (by kernel_rfl) ?_
 go_simp
 refine plain_load rfl _ _ rfl z rfl _ _ (HAZ.out) Tryz.underlying73 rfl (by kernel_rfl) ?_
 go_simp
 refine wpList_built rfl _ _ rfl #[.int .i64 3,.int .i64 n,.int .i64 x1,.int .i64 x2,.int .i64 z1,.int .i64 z2] (by kernel_rfl) ?_
 iterate 2 (refine wpList_plain rfl fun Y y'=>?_;go_simp;refine y' _ _ ?_;clear y' Y)
 cases xo with
 | false =>
  refine wpList_not (by first | rfl | decide | kernel_rfl) ?_
  go_simp
  iterate 2 (refine wpList_plain rfl fun Y y'=>?_;go_simp;refine y' _ _ ?_;clear y' Y)
  refine wpList_not (by first | rfl | decide | kernel_rfl) ?_
  go_simp
  refine wpList_not (by first | rfl | decide | kernel_rfl) ?_
  go_simp
  (refine wpList_plain rfl fun Y y'=>?_;go_simp;refine y' _ _ ?_;clear y' Y)
  refine plain_store rfl _ _ _ rfl y2 ([.int .i64 3,.int .i64 n,.int .i64 x1,.int .i64 x2,.int .i64 z1,.int .i64 z2]) rfl rfl (HB2.out) (by kernel_rfl) rfl ((by simp [Value.oneCell'])) ?_
  have HRR:=hid ((HB2.out).setRow ([.int .i64 3,.int .i64 n,.int .i64 x1,.int .i64 x2,.int .i64 z1,.int .i64 z2]))
  have HXX:=hid (show Ext w ((wq).setRow y2 ([.int .i64 3,.int .i64 n,.int .i64 x1,.int .i64 x2,.int .i64 z1,.int .i64 z2]).toArray) from below_setRow (HX3.out) ((by have:=HN.out;omega)) _)
  go_simp
  generalize (wq).setRow y2 ([.int .i64 3,.int .i64 n,.int .i64 x1,.int .i64 x2,.int .i64 z1,.int .i64 z2]).toArray = wend at *
  (refine wpList_plain rfl fun Y y'=>?_;go_simp;refine y' _ _ ?_;clear y' Y)
  apply wpList_nil
  go_wp2_with fail
  exact bodyPost_ret (results_row1 rfl rfl HRR.out Tryz.underlying75 rfl (by kernel_rfl)) rfl (⟨rfl,HXX.out⟩)
 | true =>
  cases zo with
  | false =>
   (refine wpList_yes (by first|rfl|decide) fun Y y'=>?_;go_simp;refine y' _ _ ?_;clear y' Y)
   iterate 2 (refine wpList_plain rfl fun Y y'=>?_;go_simp;refine y' _ _ ?_;clear y' Y)
   refine wpList_not (by first | rfl | decide | kernel_rfl) ?_
   go_simp
   refine wpList_not (by first | rfl | decide | kernel_rfl) ?_
   go_simp
   (refine wpList_plain rfl fun Y y'=>?_;go_simp;refine y' _ _ ?_;clear y' Y)
   refine plain_store rfl _ _ _ rfl y2 ([.int .i64 3,.int .i64 n,.int .i64 x1,.int .i64 x2,.int .i64 z1,.int .i64 z2]) rfl rfl (HB2.out) (by kernel_rfl) rfl ((by simp [Value.oneCell'])) ?_
   have HRR:=hid ((HB2.out).setRow ([.int .i64 3,.int .i64 n,.int .i64 x1,.int .i64 x2,.int .i64 z1,.int .i64 z2]))
   have HXX:=hid (show Ext w ((wq).setRow y2 ([.int .i64 3,.int .i64 n,.int .i64 x1,.int .i64 x2,.int .i64 z1,.int .i64 z2]).toArray) from below_setRow (HX3.out) ((by have:=HN.out;omega)) _)
   go_simp
   generalize (wq).setRow y2 ([.int .i64 3,.int .i64 n,.int .i64 x1,.int .i64 x2,.int .i64 z1,.int .i64 z2]).toArray = wend at *
   (refine wpList_plain rfl fun Y y'=>?_;go_simp;refine y' _ _ ?_;clear y' Y)
   apply wpList_nil
   go_wp2_with fail
   exact bodyPost_ret (results_row1 rfl rfl HRR.out Tryz.underlying75 rfl (by kernel_rfl)) rfl (⟨rfl,HXX.out⟩)
  | true =>
   cases nb with
   | true =>
    have hge:=dec_yes HNB.out
    (refine wpList_yes (by first|rfl|decide) fun Y y'=>?_;go_simp;refine y' _ _ ?_;clear y' Y)
    iterate 2 (refine wpList_plain rfl fun Y y'=>?_;go_simp;refine y' _ _ ?_;clear y' Y)
    iterate 2 (refine wpList_yes (by first|rfl|decide) fun Y y'=>?_;go_simp;refine y' _ _ ?_;clear y' Y)
    (refine wpList_plain rfl fun Y y'=>?_;go_simp;refine y' _ _ ?_;clear y' Y)
    refine plain_store rfl _ _ _ rfl y2 ([.int .i64 3,.int .i64 n,.int .i64 x1,.int .i64 x2,.int .i64 z1,.int .i64 z2]) rfl rfl (HB2.out) (by kernel_rfl) rfl ((by simp [Value.oneCell'])) ?_
    have HRR:=hid ((HB2.out).setRow ([.int .i64 3,.int .i64 n,.int .i64 x1,.int .i64 x2,.int .i64 z1,.int .i64 z2]))
    have HXX:=hid (show Ext w ((wq).setRow y2 ([.int .i64 3,.int .i64 n,.int .i64 x1,.int .i64 x2,.int .i64 z1,.int .i64 z2]).toArray) from below_setRow (HX3.out) ((by have:=HN.out;omega)) _)
    go_simp
    generalize (wq).setRow y2 ([.int .i64 3,.int .i64 n,.int .i64 x1,.int .i64 x2,.int .i64 z1,.int .i64 z2]).toArray = wend at *
    (refine wpList_plain rfl fun Y y'=>?_;go_simp;refine y' _ _ ?_;clear y' Y)
    apply wpList_nil
    go_wp2_with fail
    exact bodyPost_ret (results_row1 rfl rfl HRR.out Tryz.underlying75 rfl (by kernel_rfl)) rfl (⟨rfl,HXX.out⟩)
   | false =>
    have hge:=dec_no HNB.out
    (refine wpList_yes (by first|rfl|decide) fun Y y'=>?_;go_simp;refine y' _ _ ?_;clear y' Y)
    iterate 2 (refine wpList_plain rfl fun Y y'=>?_;go_simp;refine y' _ _ ?_;clear y' Y)
    iterate 2 (refine wpList_yes (by first|rfl|decide) fun Y y'=>?_;go_simp;refine y' _ _ ?_;clear y' Y)
    (refine wpList_plain rfl fun Y y'=>?_;go_simp;refine y' _ _ ?_;clear y' Y)
    refine plain_store rfl _ _ _ rfl y2 ([.int .i64 3,.int .i64 n,.int .i64 x1,.int .i64 x2,.int .i64 z1,.int .i64 z2]) rfl rfl (HB2.out) (by kernel_rfl) rfl ((by simp [Value.oneCell'])) ?_
    have HRR:=hid ((HB2.out).setRow ([.int .i64 3,.int .i64 n,.int .i64 x1,.int .i64 x2,.int .i64 z1,.int .i64 z2]))
    have HXX:=hid (show Ext w ((wq).setRow y2 ([.int .i64 3,.int .i64 n,.int .i64 x1,.int .i64 x2,.int .i64 z1,.int .i64 z2]).toArray) from below_setRow (HX3.out) ((by have:=HN.out;omega)) _)
    go_simp
    generalize (wq).setRow y2 ([.int .i64 3,.int .i64 n,.int .i64 x1,.int .i64 x2,.int .i64 z1,.int .i64 z2]).toArray = wend at *
    (refine wpList_plain rfl fun Y y'=>?_;go_simp;refine y' _ _ ?_;clear y' Y)
    apply wpList_nil
    go_wp2_with fail
    exact bodyPost_ret (results_row1 rfl rfl HRR.out Tryz.underlying75 rfl (by kernel_rfl)) rfl (⟨rfl,HXX.out⟩)
theorem atomR_any (a:Atm) (hk:a.kind = 1 ∨ a.kind = 2 ∨ a.kind = 3 ∨ a.kind = 4) (hV:DicV w (hv A) D) (hVV:Strs w vv V) :
 Calls Tryz.prog 53 #[.agg (dcells (hv A)).toArray,vv,.agg (atCells a).toArray] w fun e w'=>e = .returned (.tuple #[.agg (bndCells (bndT D V a).1).toArray,.bool (bndT D V a).2]) ∧ Ext w w':=by
 obtain ⟨kind,fk,fn,name,value,tk,tn⟩:=a
 dsimp only at hk
 unfold bndT
 dsimp only
 rcases hk with rfl | rfl | rfl | rfl
 ·rw [if_pos rfl];exact atomR_1 A D V vv fk fn name value tk tn w hV hVV
 ·rw [if_neg (by decide),if_pos rfl];exact atomR_2 A D V vv fk fn name value tk tn w hV hVV
 ·rw [if_neg (by decide),if_neg (by decide),if_pos rfl];exact atomR_3 A D V vv fk fn name value tk tn w hV hVV
 ·rw [if_neg (by decide),if_neg (by decide),if_neg (by decide)];exact atomR_4 A D V vv fk fn name value tk tn w hV hVV
end
end

end Go.Proofs.YtkmbnghghbfkdaaGreat
