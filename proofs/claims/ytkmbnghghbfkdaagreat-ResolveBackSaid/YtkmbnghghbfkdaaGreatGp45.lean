/- The document: the atom of a bound. -/
import Derived.Test.YtkmbnghghbfkdaaGreatGp44
import Derived.Test.YtkmbnghghbfkdaaGreatGp39
set_option linter.unusedSimpArgs false
set_option linter.unusedVariables false
set_option maxHeartbeats 2000000
set_option maxRecDepth 100000
namespace Go.Proofs.YtkmbnghghbfkdaaGreat
open Go.Lib (hid)

section
open Go.RowKit Go.Shelf Go.Sort
attribute [local go_sem] Oper.semAt_some wide_fn wide_depth
def groQ4:Nat → Gro
 | 0=>.read
 | 5=>.read
 | 7=>.read
 | 13=>.read
 | 16=>.grow
 | _=>.pure
def groQ7:Nat → Gro
 | 0=>.read
 | 9=>.read
 | 11=>.read
 | 14=>.grow
 | _=>.pure
def groQ12:Nat → Gro
 | 0=>.read
 | 14=>.read
 | 17=>.grow
 | _=>.pure
theorem arg_eqlQ (x y:Arg) (w:World):(binOp .eql 73 (argV x) (argV y)).run Tryz.prog w = .ok (.bool (decide (x = y))) w:=by
 have hd:decide (x = y) = (x.var == y.var && x.id == y.id):=by
  obtain ⟨a,b⟩:=x
  obtain ⟨c,d⟩:=y
  rw [Bool.eq_iff_iff]
  simp
 rw [hd]
 unfold argV
 rw [run_eql_struct,show (10000:Nat) = 9999 + 1 from rfl,run_equalIn_struct (P:=Tryz.prog) w 9999 73 _ _ (by kernel_rfl) (by kernel_rfl)]
 have hf3:(Tryz.prog.fieldsOf 73).toList = _:=congrArg Array.toList (show Tryz.prog.fieldsOf 73 = _ by unfold Program.fieldsOf;rw [Tryz.underlying73])
 rw [hf3]
 simp [Op.eqFields,go_sem,run_equalIn_int]
 by_cases h1:x.var = y.var
 case neg=>simp [h1]
 by_cases h2:x.id = y.id <;> simp [h1,h2]
section
variable (A:Heads) (D:Dic) (V:List ByteArray) (vv:Value) (nm a1 a2 b1 b2:Int) (w:World)
set_option maxHeartbeats 4000000 in
theorem backR_0 (hV:DicV w (hv A) D) (hVV:Strs w vv V) :
 Calls Tryz.prog 71 #[.agg (dcells (hv A)).toArray,vv,.agg #[.int .i64 0,.int .i64 nm,.int .i64 a1,.int .i64 a2,.int .i64 b1,.int .i64 b2]] w fun e w'=>e = .returned (.tuple #[.agg #[.int .i64 1,.bool (termT D V ⟨a1,a2⟩).1.1,.string (termT D V ⟨a1,a2⟩).1.2,.string nilB,.string nilB,.bool false,.string nilB],.bool ((termT D V ⟨a1,a2⟩).2 && decide ((⟨a1,a2⟩:Arg) = ⟨b1,b2⟩) && decide (nm = 0))]) ∧ Ext w w':=by
 have hmo:Tryz.prog.follows .mixedOrders = true:=by kernel_rfl
 have hqe:=fun w=>arg_eqlQ ⟨a1,a2⟩ ⟨b1,b2⟩ w
 obtain ⟨eb,heb⟩:∃ b,decide ((⟨a1,a2⟩:Arg) = ⟨b1,b2⟩) = b:=⟨_,rfl⟩
 rw [heb] at hqe ⊢
 clear heb
 unfold argV at hqe
 dsimp only at hqe
 obtain ⟨nb,hnb⟩:∃ b,decide (nm = 0) = b:=⟨_,rfl⟩
 rw [hnb]
 have n1:(nm == 0) = nb:=by rw [← hnb];rfl
 clear hnb
 have hc0:=fun w' (hx:Ext w w')=>termR_any A D V vv ⟨a1,a2⟩ w' (hV.ext hx) (Strs.ext hVV hx)
 obtain ⟨X,hX⟩:∃ X,termT D V ⟨a1,a2⟩ = X:=⟨_,rfl⟩
 rw [hX] at hc0
 try rw [hX]
 clear hX
 obtain ⟨⟨f1,f2⟩,fo⟩:=X
 dsimp only at hc0
 try dsimp only
 have HC0:=hid hc0
 clear hc0 hV hVV
 have hbx:=boxes3 w (dcells (hv A)) 28 ([.int .i64 0,.int .i64 nm,.int .i64 a1,.int .i64 a2,.int .i64 b1,.int .i64 b2]) 75 ([.int .i64 0,.bool false,.string ⟨#[]⟩,.string ⟨#[]⟩,.string ⟨#[]⟩,.bool false,.string ⟨#[]⟩]) 88
 have HBX:=hid hbx
 clear hbx
 go_enter Tryz.func71,Tryz.ntmps71
 go_upto_region 1 with fail
 generalize ((w.alloc (.cells (dcells (hv A)).toArray 28)).alloc (.cells ([.int .i64 0,.int .i64 nm,.int .i64 a1,.int .i64 a2,.int .i64 b1,.int .i64 b2]).toArray 75)).alloc (.cells ([.int .i64 0,.bool false,.string ⟨#[]⟩,.string ⟨#[]⟩,.string ⟨#[]⟩,.bool false,.string ⟨#[]⟩]).toArray 88) = w1 at *
 obtain ⟨y0,hy0⟩:∃ x,w.heap.size = x:=⟨_,rfl⟩
 obtain ⟨y1,hy1⟩:∃ x,y0 + 1 = x:=⟨_,rfl⟩
 obtain ⟨y2,hy2⟩:∃ x,y1 + 1 = x:=⟨_,rfl⟩
 rw [hy0,hy1,hy2] at HBX
 simp only [hy0,hy1,hy2]
 have HN:=hid (show w.heap.size = y0 ∧ y0 + 1 = y1 ∧ y1 + 1 = y2 from ⟨hy0,hy1,hy2⟩)
 have HX:=hid HBX.out.1
 have H0:=hid HBX.out.2.1
 have H1:=hid HBX.out.2.2.1
 have H2:=hid HBX.out.2.2.2
 clear hy0 hy1 hy2 HBX
 have k2:=H1.out.cell (i:=2) rfl
 have k3:=H1.out.cell (i:=3) rfl
 apply wp_region_lit
 refine plain_load rfl _ _ rfl y0 rfl _ _ (H0.out) Tryz.underlying28 rfl (by kernel_rfl) ?_
 go_simp
 iterate 3 (refine wpList_plain rfl fun Y y'=>?_;go_simp;refine y' _ _ ?_;clear y' Y)
 refine wpList_plain rfl fun K1 hK1=>?_
 go_simp
 refine (HC0.out w1 HX.out).mono ?_;rintro e w2 ⟨rfl,hx2⟩
 go_simp
 refine hK1 _ _ ?_
 clear hK1 K1
 iterate 4 (refine wpList_plain rfl fun Y y'=>?_;go_simp;refine y' _ _ ?_;clear y' Y)
 have hax:=Ext.alloc w2 (.cells #[.bool false,.string ⟨#[]⟩] 86)
 have har:RowAt (w2.alloc (.cells #[.bool false,.string ⟨#[]⟩] 86)) w2.heap.size 86 (#[.bool false,.string ⟨#[]⟩]).toList:=RowAt.new _ _ _
 refine plain_store rfl _ _ _ rfl w2.heap.size ([.bool f1,.string f2]) rfl rfl har (by kernel_rfl) rfl ((by simp [Value.oneCell'])) ?_
 have hex:Ext w2 ((w2.alloc (.cells #[.bool false,.string ⟨#[]⟩] 86)).setRow w2.heap.size ([.bool f1,.string f2]).toArray):=below_setRow hax (Nat.le_refl _) _
 have HEw3:=hid hex
 have HRx:=hid (har.setRow ([.bool f1,.string f2]))
 clear hax har hex
 go_simp
 generalize (w2.alloc (.cells #[.bool false,.string ⟨#[]⟩] 86)).setRow w2.heap.size ([.bool f1,.string f2]).toArray = w3 at *
 obtain ⟨x,hsx⟩:∃ x,w2.heap.size = x:=⟨_,rfl⟩
 rw [hsx] at HRx
 simp only [hsx]
 have HSx:=hid hsx
 clear hsx
 (refine wpList_plain rfl fun Y y'=>?_;go_simp;refine y' _ _ ?_;clear y' Y)
 apply wpList_nil
 have hx3:=hx2.trans HEw3.out
 have HX3:=hid (HX.out.trans hx3)
 have G0:=hid (H0.out.ext hx3)
 have G1:=hid (H1.out.ext hx3)
 have HB2:=hid (H2.out.ext hx3)
 have HAX:=hid (show RowAt w3 x 86 [.bool f1,.string f2] from HRx.out)
 have HXL:=hid (show y2 < x by have h1:=H2.out.lt;have h2:=hx2.size;have h3:=HSx.out;omega)
 have hy1:¬ y1 ∈ [y2]:=by have:=HN.out;simp;omega
 have hy1':¬ y1 = y2:=by have:=HN.out;omega
 have hx1:¬ x ∈ [y2]:=by have:=HXL.out;simp;omega
 have hx1':¬ x = y2:=by have:=HXL.out;omega
 have hy0:¬ y0 ∈ [y2]:=by have:=HN.out;simp;omega
 clear hx2 hx3 HX H0 H1 H2 HEw3 HRx HSx HC0 k2 k3
 have k0:=G1.out.cell (i:=0) rfl
 have k1:=G1.out.cell (i:=1) rfl
 have k2:=G1.out.cell (i:=2) rfl
 have k3:=G1.out.cell (i:=3) rfl
 have k4:=G1.out.cell (i:=4) rfl
 have k5:=G1.out.cell (i:=5) rfl
 have j0:=HAX.out.cell (i:=0) rfl
 have j1:=HAX.out.cell (i:=1) rfl
 go_upto_region 4 with fail
 obtain ⟨wz,hwz⟩:∃ x,x = w3:=⟨_,rfl⟩
 subst hwz
 refine wp_region_grox [y2] groQ4 [0,1,2,3,4,5,6,7,8,9,10,11,12,13,14,15,16,17] hmo (by kernel_rfl) rfl (by kernel_rfl) (fun _ _ _ _ _ h=>h) ?_
 have hxd:Ext wz wz.drew:=Ext.drewN wz 1
 generalize wz.drew = wd at *
 replace G0:=hid (G0.out.ext hxd)
 replace G1:=hid (G1.out.ext hxd)
 replace HB2:=hid (HB2.out.ext hxd)
 replace HAX:=hid (HAX.out.ext hxd)
 replace HX3:=hid (HX3.out.trans hxd)
 clear hxd k0 k1 k2 k3 k4 k5 j0 j1
 have k0:=G1.out.cell (i:=0) rfl
 have k1:=G1.out.cell (i:=1) rfl
 have k2:=G1.out.cell (i:=2) rfl
 have k3:=G1.out.cell (i:=3) rfl
 have k4:=G1.out.cell (i:=4) rfl
 have k5:=G1.out.cell (i:=5) rfl
 have j0:=HAX.out.cell (i:=0) rfl
 have j1:=HAX.out.cell (i:=1) rfl
 cases fo with
 | false =>
  repeat (first
   | (refine groX_pure rfl rfl ?_;intro K hK;go_simp;refine hK _ ?_;clear hK K)
   | (refine groX_read rfl rfl ?_;intro K S hS hK;go_simp;refine hK _ ?_;clear hK K hS S)
   | (refine groX_read rfl rfl ?_;intro K S hS hK;go_simp;refine ⟨hS _ ?_,hK _ ?_⟩;(clear hK K hS S;intro w' hx';have hce:=grows_some hx';go_simp);clear hK K hS S))
  refine groX_store rfl rfl rfl _ _ _ rfl y2 ([.int .i64 1,.bool f1,.string f2,.string nilB,.string nilB,.bool false,.string nilB]) rfl rfl HB2.out (by simp) (by kernel_rfl) rfl (by simp [Value.oneCell']) ?_
  have HZ5:=hid (HB2.out.setRow ([.int .i64 1,.bool f1,.string f2,.string nilB,.string nilB,.bool false,.string nilB]))
  have HX5:=hid (show Ext w (wd.setRow y2 #[.int .i64 1,.bool f1,.string f2,.string nilB,.string nilB,.bool false,.string nilB]) from below_setRow HX3.out (by have:=HN.out;omega) _)
  generalize wd.setRow y2 #[.int .i64 1,.bool f1,.string f2,.string nilB,.string nilB,.bool false,.string nilB] = w5 at *
  repeat (first
   | (refine groX_pure rfl rfl ?_;intro K hK;go_simp;refine hK _ ?_;clear hK K)
   | (refine groX_read rfl rfl ?_;intro K S hS hK;go_simp;refine hK _ ?_;clear hK K hS S)
   | (refine groX_read rfl rfl ?_;intro K S hS hK;go_simp;refine ⟨hS _ ?_,hK _ ?_⟩;(clear hK K hS S;intro w' hx';have hce:=grows_some hx';go_simp);clear hK K hS S))
  refine groX_nil ?_
  go_wp2_with fail
  exact bodyPost_ret (results_row1 rfl rfl HZ5.out Tryz.underlying88 rfl (by kernel_rfl)) rfl ⟨rfl,HX5.out⟩
 | true =>
  cases eb with
  | false =>
   repeat (first
    | (refine groX_pure rfl rfl ?_;intro K hK;go_simp;refine hK _ ?_;clear hK K)
    | (refine groX_read rfl rfl ?_;intro K S hS hK;go_simp;refine hK _ ?_;clear hK K hS S)
    | (refine groX_read rfl rfl ?_;intro K S hS hK;go_simp;refine ⟨hS _ ?_,hK _ ?_⟩;(clear hK K hS S;intro w' hx';have hce:=grows_some hx';go_simp);clear hK K hS S))
   refine groX_store rfl rfl rfl _ _ _ rfl y2 ([.int .i64 1,.bool f1,.string f2,.string nilB,.string nilB,.bool false,.string nilB]) rfl rfl HB2.out (by simp) (by kernel_rfl) rfl (by simp [Value.oneCell']) ?_
   have HZ5:=hid (HB2.out.setRow ([.int .i64 1,.bool f1,.string f2,.string nilB,.string nilB,.bool false,.string nilB]))
   have HX5:=hid (show Ext w (wd.setRow y2 #[.int .i64 1,.bool f1,.string f2,.string nilB,.string nilB,.bool false,.string nilB]) from below_setRow HX3.out (by have:=HN.out;omega) _)
   generalize wd.setRow y2 #[.int .i64 1,.bool f1,.string f2,.string nilB,.string nilB,.bool false,.string nilB] = w5 at *
   repeat (first
    | (refine groX_pure rfl rfl ?_;intro K hK;go_simp;refine hK _ ?_;clear hK K)
    | (refine groX_read rfl rfl ?_;intro K S hS hK;go_simp;refine hK _ ?_;clear hK K hS S)
    | (refine groX_read rfl rfl ?_;intro K S hS hK;go_simp;refine ⟨hS _ ?_,hK _ ?_⟩;(clear hK K hS S;intro w' hx';have hce:=grows_some hx';go_simp);clear hK K hS S))
   refine groX_nil ?_
   go_wp2_with fail
   exact bodyPost_ret (results_row1 rfl rfl HZ5.out Tryz.underlying88 rfl (by kernel_rfl)) rfl ⟨rfl,HX5.out⟩
  | true =>
   cases nb with
   | false =>
    repeat (first
     | (refine groX_pure rfl rfl ?_;intro K hK;go_simp;refine hK _ ?_;clear hK K)
     | (refine groX_read rfl rfl ?_;intro K S hS hK;go_simp;refine hK _ ?_;clear hK K hS S)
     | (refine groX_read rfl rfl ?_;intro K S hS hK;go_simp;refine ⟨hS _ ?_,hK _ ?_⟩;(clear hK K hS S;intro w' hx';have hce:=grows_some hx';go_simp);clear hK K hS S))
    refine groX_store rfl rfl rfl _ _ _ rfl y2 ([.int .i64 1,.bool f1,.string f2,.string nilB,.string nilB,.bool false,.string nilB]) rfl rfl HB2.out (by simp) (by kernel_rfl) rfl (by simp [Value.oneCell']) ?_
    have HZ5:=hid (HB2.out.setRow ([.int .i64 1,.bool f1,.string f2,.string nilB,.string nilB,.bool false,.string nilB]))
    have HX5:=hid (show Ext w (wd.setRow y2 #[.int .i64 1,.bool f1,.string f2,.string nilB,.string nilB,.bool false,.string nilB]) from below_setRow HX3.out (by have:=HN.out;omega) _)
    generalize wd.setRow y2 #[.int .i64 1,.bool f1,.string f2,.string nilB,.string nilB,.bool false,.string nilB] = w5 at *
    repeat (first
     | (refine groX_pure rfl rfl ?_;intro K hK;go_simp;refine hK _ ?_;clear hK K)
     | (refine groX_read rfl rfl ?_;intro K S hS hK;go_simp;refine hK _ ?_;clear hK K hS S)
     | (refine groX_read rfl rfl ?_;intro K S hS hK;go_simp;refine ⟨hS _ ?_,hK _ ?_⟩;(clear hK K hS S;intro w' hx';have hce:=grows_some hx';go_simp);clear hK K hS S))
    refine groX_nil ?_
    go_wp2_with fail
    exact bodyPost_ret (results_row1 rfl rfl HZ5.out Tryz.underlying88 rfl (by kernel_rfl)) rfl ⟨rfl,HX5.out⟩
   | true =>
    repeat (first
     | (refine groX_pure rfl rfl ?_;intro K hK;go_simp;refine hK _ ?_;clear hK K)
     | (refine groX_read rfl rfl ?_;intro K S hS hK;go_simp;refine hK _ ?_;clear hK K hS S)
     | (refine groX_read rfl rfl ?_;intro K S hS hK;go_simp;refine ⟨hS _ ?_,hK _ ?_⟩;(clear hK K hS S;intro w' hx';have hce:=grows_some hx';go_simp);clear hK K hS S))
    refine groX_store rfl rfl rfl _ _ _ rfl y2 ([.int .i64 1,.bool f1,.string f2,.string nilB,.string nilB,.bool false,.string nilB]) rfl rfl HB2.out (by simp) (by kernel_rfl) rfl (by simp [Value.oneCell']) ?_
    have HZ5:=hid (HB2.out.setRow ([.int .i64 1,.bool f1,.string f2,.string nilB,.string nilB,.bool false,.string nilB]))
    have HX5:=hid (show Ext w (wd.setRow y2 #[.int .i64 1,.bool f1,.string f2,.string nilB,.string nilB,.bool false,.string nilB]) from below_setRow HX3.out (by have:=HN.out;omega) _)
    generalize wd.setRow y2 #[.int .i64 1,.bool f1,.string f2,.string nilB,.string nilB,.bool false,.string nilB] = w5 at *
    repeat (first
     | (refine groX_pure rfl rfl ?_;intro K hK;go_simp;refine hK _ ?_;clear hK K)
     | (refine groX_read rfl rfl ?_;intro K S hS hK;go_simp;refine hK _ ?_;clear hK K hS S)
     | (refine groX_read rfl rfl ?_;intro K S hS hK;go_simp;refine ⟨hS _ ?_,hK _ ?_⟩;(clear hK K hS S;intro w' hx';have hce:=grows_some hx';go_simp);clear hK K hS S))
    refine groX_nil ?_
    go_wp2_with fail
    exact bodyPost_ret (results_row1 rfl rfl HZ5.out Tryz.underlying88 rfl (by kernel_rfl)) rfl ⟨rfl,HX5.out⟩
set_option maxHeartbeats 4000000 in
theorem backR_1 (hV:DicV w (hv A) D) (hVV:Strs w vv V) :
 Calls Tryz.prog 71 #[.agg (dcells (hv A)).toArray,vv,.agg #[.int .i64 1,.int .i64 nm,.int .i64 a1,.int .i64 a2,.int .i64 b1,.int .i64 b2]] w fun e w'=>e = .returned (.tuple #[.agg #[.int .i64 2,.bool (termT D V ⟨a1,a2⟩).1.1,.string (termT D V ⟨a1,a2⟩).1.2,.string (nmT D 1 nm).1,.string nilB,.bool false,.string nilB],.bool ((termT D V ⟨a1,a2⟩).2 && (nmT D 1 nm).2 && decide ((⟨a1,a2⟩:Arg) = ⟨b1,b2⟩))]) ∧ Ext w w':=by
 have hmo:Tryz.prog.follows .mixedOrders = true:=by kernel_rfl
 have hqe:=fun w=>arg_eqlQ ⟨a1,a2⟩ ⟨b1,b2⟩ w
 obtain ⟨eb,heb⟩:∃ b,decide ((⟨a1,a2⟩:Arg) = ⟨b1,b2⟩) = b:=⟨_,rfl⟩
 rw [heb] at hqe ⊢
 clear heb
 unfold argV at hqe
 dsimp only at hqe
 have hna:=fun w' (hx:Ext w w')=>nameR_any A D 1 nm w' (hV.ext hx) (by omega)
 obtain ⟨Nna,hN⟩:∃ N,nmT D 1 nm = N:=⟨_,rfl⟩
 rw [hN] at hna
 rw [hN]
 clear hN
 obtain ⟨s,sb⟩:=Nna
 dsimp only at hna
 try dsimp only
 have HNA:=hid hna
 clear hna
 have hc0:=fun w' (hx:Ext w w')=>termR_any A D V vv ⟨a1,a2⟩ w' (hV.ext hx) (Strs.ext hVV hx)
 obtain ⟨X,hX⟩:∃ X,termT D V ⟨a1,a2⟩ = X:=⟨_,rfl⟩
 rw [hX] at hc0
 try rw [hX]
 clear hX
 obtain ⟨⟨f1,f2⟩,fo⟩:=X
 dsimp only at hc0
 try dsimp only
 have HC0:=hid hc0
 clear hc0 hV hVV
 have hbx:=boxes3 w (dcells (hv A)) 28 ([.int .i64 1,.int .i64 nm,.int .i64 a1,.int .i64 a2,.int .i64 b1,.int .i64 b2]) 75 ([.int .i64 0,.bool false,.string ⟨#[]⟩,.string ⟨#[]⟩,.string ⟨#[]⟩,.bool false,.string ⟨#[]⟩]) 88
 have HBX:=hid hbx
 clear hbx
 go_enter Tryz.func71,Tryz.ntmps71
 go_upto_region 1 with fail
 generalize ((w.alloc (.cells (dcells (hv A)).toArray 28)).alloc (.cells ([.int .i64 1,.int .i64 nm,.int .i64 a1,.int .i64 a2,.int .i64 b1,.int .i64 b2]).toArray 75)).alloc (.cells ([.int .i64 0,.bool false,.string ⟨#[]⟩,.string ⟨#[]⟩,.string ⟨#[]⟩,.bool false,.string ⟨#[]⟩]).toArray 88) = w1 at *
 obtain ⟨y0,hy0⟩:∃ x,w.heap.size = x:=⟨_,rfl⟩
 obtain ⟨y1,hy1⟩:∃ x,y0 + 1 = x:=⟨_,rfl⟩
 obtain ⟨y2,hy2⟩:∃ x,y1 + 1 = x:=⟨_,rfl⟩
 rw [hy0,hy1,hy2] at HBX
 simp only [hy0,hy1,hy2]
 have HN:=hid (show w.heap.size = y0 ∧ y0 + 1 = y1 ∧ y1 + 1 = y2 from ⟨hy0,hy1,hy2⟩)
 have HX:=hid HBX.out.1
 have H0:=hid HBX.out.2.1
 have H1:=hid HBX.out.2.2.1
 have H2:=hid HBX.out.2.2.2
 clear hy0 hy1 hy2 HBX
 have k2:=H1.out.cell (i:=2) rfl
 have k3:=H1.out.cell (i:=3) rfl
 apply wp_region_lit
 refine plain_load rfl _ _ rfl y0 rfl _ _ (H0.out) Tryz.underlying28 rfl (by kernel_rfl) ?_
 go_simp
 iterate 3 (refine wpList_plain rfl fun Y y'=>?_;go_simp;refine y' _ _ ?_;clear y' Y)
 refine wpList_plain rfl fun K1 hK1=>?_
 go_simp
 refine (HC0.out w1 HX.out).mono ?_;rintro e w2 ⟨rfl,hx2⟩
 go_simp
 refine hK1 _ _ ?_
 clear hK1 K1
 iterate 4 (refine wpList_plain rfl fun Y y'=>?_;go_simp;refine y' _ _ ?_;clear y' Y)
 have hax:=Ext.alloc w2 (.cells #[.bool false,.string ⟨#[]⟩] 86)
 have har:RowAt (w2.alloc (.cells #[.bool false,.string ⟨#[]⟩] 86)) w2.heap.size 86 (#[.bool false,.string ⟨#[]⟩]).toList:=RowAt.new _ _ _
 refine plain_store rfl _ _ _ rfl w2.heap.size ([.bool f1,.string f2]) rfl rfl har (by kernel_rfl) rfl ((by simp [Value.oneCell'])) ?_
 have hex:Ext w2 ((w2.alloc (.cells #[.bool false,.string ⟨#[]⟩] 86)).setRow w2.heap.size ([.bool f1,.string f2]).toArray):=below_setRow hax (Nat.le_refl _) _
 have HEw3:=hid hex
 have HRx:=hid (har.setRow ([.bool f1,.string f2]))
 clear hax har hex
 go_simp
 generalize (w2.alloc (.cells #[.bool false,.string ⟨#[]⟩] 86)).setRow w2.heap.size ([.bool f1,.string f2]).toArray = w3 at *
 obtain ⟨x,hsx⟩:∃ x,w2.heap.size = x:=⟨_,rfl⟩
 rw [hsx] at HRx
 simp only [hsx]
 have HSx:=hid hsx
 clear hsx
 (refine wpList_plain rfl fun Y y'=>?_;go_simp;refine y' _ _ ?_;clear y' Y)
 apply wpList_nil
 have hx3:=hx2.trans HEw3.out
 have HX3:=hid (HX.out.trans hx3)
 have G0:=hid (H0.out.ext hx3)
 have G1:=hid (H1.out.ext hx3)
 have HB2:=hid (H2.out.ext hx3)
 have HAX:=hid (show RowAt w3 x 86 [.bool f1,.string f2] from HRx.out)
 have HXL:=hid (show y2 < x by have h1:=H2.out.lt;have h2:=hx2.size;have h3:=HSx.out;omega)
 have hy1:¬ y1 ∈ [y2]:=by have:=HN.out;simp;omega
 have hy1':¬ y1 = y2:=by have:=HN.out;omega
 have hx1:¬ x ∈ [y2]:=by have:=HXL.out;simp;omega
 have hx1':¬ x = y2:=by have:=HXL.out;omega
 have hy0:¬ y0 ∈ [y2]:=by have:=HN.out;simp;omega
 clear hx2 hx3 HX H0 H1 H2 HEw3 HRx HSx HC0 k2 k3
 have k0:=G1.out.cell (i:=0) rfl
 have k1:=G1.out.cell (i:=1) rfl
 have k2:=G1.out.cell (i:=2) rfl
 have k3:=G1.out.cell (i:=3) rfl
 have k4:=G1.out.cell (i:=4) rfl
 have k5:=G1.out.cell (i:=5) rfl
 have j0:=HAX.out.cell (i:=0) rfl
 have j1:=HAX.out.cell (i:=1) rfl
 go_upto_region 6 with fail
 apply wp_region_lit
 refine plain_load rfl _ _ rfl y0 rfl _ _ (G0.out) Tryz.underlying28 rfl (by kernel_rfl) ?_
 go_simp
 iterate 3 (refine wpList_plain rfl fun Y y'=>?_;go_simp;refine y' _ _ ?_;clear y' Y)
 refine wpList_plain rfl fun K1 hK1=>?_
 go_simp
 refine (HNA.out w3 HX3.out).mono ?_;rintro e w4 ⟨rfl,hxw4⟩
 go_simp
 refine hK1 _ _ ?_
 clear hK1 K1
 iterate 5 (refine wpList_plain rfl fun Y y'=>?_;go_simp;refine y' _ _ ?_;clear y' Y)
 apply wpList_nil
 replace G0:=hid (G0.out.ext hxw4)
 replace G1:=hid (G1.out.ext hxw4)
 replace HB2:=hid (HB2.out.ext hxw4)
 replace HAX:=hid (HAX.out.ext hxw4)
 replace HX3:=hid (HX3.out.trans hxw4)
 clear hxw4 k0 k1 k2 k3 k4 k5 j0 j1
 have k0:=G1.out.cell (i:=0) rfl
 have k1:=G1.out.cell (i:=1) rfl
 have k2:=G1.out.cell (i:=2) rfl
 have k3:=G1.out.cell (i:=3) rfl
 have k4:=G1.out.cell (i:=4) rfl
 have k5:=G1.out.cell (i:=5) rfl
 have j0:=HAX.out.cell (i:=0) rfl
 have j1:=HAX.out.cell (i:=1) rfl
 go_upto_region 7 with fail
 obtain ⟨wz,hwz⟩:∃ x,x = w4:=⟨_,rfl⟩
 subst hwz
 refine wp_region_grox [y2] groQ7 [0,1,2,3,4,5,6,7,8,9,10,11,12,13,14,15] hmo (by kernel_rfl) rfl (by kernel_rfl) (fun _ _ _ _ _ h=>h) ?_
 have hxd:Ext wz wz.drew:=Ext.drewN wz 1
 generalize wz.drew = wd at *
 replace G0:=hid (G0.out.ext hxd)
 replace G1:=hid (G1.out.ext hxd)
 replace HB2:=hid (HB2.out.ext hxd)
 replace HAX:=hid (HAX.out.ext hxd)
 replace HX3:=hid (HX3.out.trans hxd)
 clear hxd k0 k1 k2 k3 k4 k5 j0 j1
 have k0:=G1.out.cell (i:=0) rfl
 have k1:=G1.out.cell (i:=1) rfl
 have k2:=G1.out.cell (i:=2) rfl
 have k3:=G1.out.cell (i:=3) rfl
 have k4:=G1.out.cell (i:=4) rfl
 have k5:=G1.out.cell (i:=5) rfl
 have j0:=HAX.out.cell (i:=0) rfl
 have j1:=HAX.out.cell (i:=1) rfl
 cases fo with
 | false =>
  repeat (first
   | (refine groX_pure rfl rfl ?_;intro K hK;go_simp;refine hK _ ?_;clear hK K)
   | (refine groX_read rfl rfl ?_;intro K S hS hK;go_simp;refine hK _ ?_;clear hK K hS S)
   | (refine groX_read rfl rfl ?_;intro K S hS hK;go_simp;refine ⟨hS _ ?_,hK _ ?_⟩;(clear hK K hS S;intro w' hx';have hce:=grows_some hx';go_simp);clear hK K hS S))
  refine groX_store rfl rfl rfl _ _ _ rfl y2 ([.int .i64 2,.bool f1,.string f2,.string s,.string nilB,.bool false,.string nilB]) rfl rfl HB2.out (by simp) (by kernel_rfl) rfl (by simp [Value.oneCell']) ?_
  have HZ5:=hid (HB2.out.setRow ([.int .i64 2,.bool f1,.string f2,.string s,.string nilB,.bool false,.string nilB]))
  have HX5:=hid (show Ext w (wd.setRow y2 #[.int .i64 2,.bool f1,.string f2,.string s,.string nilB,.bool false,.string nilB]) from below_setRow HX3.out (by have:=HN.out;omega) _)
  generalize wd.setRow y2 #[.int .i64 2,.bool f1,.string f2,.string s,.string nilB,.bool false,.string nilB] = w5 at *
  repeat (first
   | (refine groX_pure rfl rfl ?_;intro K hK;go_simp;refine hK _ ?_;clear hK K)
   | (refine groX_read rfl rfl ?_;intro K S hS hK;go_simp;refine hK _ ?_;clear hK K hS S)
   | (refine groX_read rfl rfl ?_;intro K S hS hK;go_simp;refine ⟨hS _ ?_,hK _ ?_⟩;(clear hK K hS S;intro w' hx';have hce:=grows_some hx';go_simp);clear hK K hS S))
  refine groX_nil ?_
  go_wp2_with fail
  exact bodyPost_ret (results_row1 rfl rfl HZ5.out Tryz.underlying88 rfl (by kernel_rfl)) rfl ⟨rfl,HX5.out⟩
 | true =>
  cases sb with
  | false =>
   repeat (first
    | (refine groX_pure rfl rfl ?_;intro K hK;go_simp;refine hK _ ?_;clear hK K)
    | (refine groX_read rfl rfl ?_;intro K S hS hK;go_simp;refine hK _ ?_;clear hK K hS S)
    | (refine groX_read rfl rfl ?_;intro K S hS hK;go_simp;refine ⟨hS _ ?_,hK _ ?_⟩;(clear hK K hS S;intro w' hx';have hce:=grows_some hx';go_simp);clear hK K hS S))
   refine groX_store rfl rfl rfl _ _ _ rfl y2 ([.int .i64 2,.bool f1,.string f2,.string s,.string nilB,.bool false,.string nilB]) rfl rfl HB2.out (by simp) (by kernel_rfl) rfl (by simp [Value.oneCell']) ?_
   have HZ5:=hid (HB2.out.setRow ([.int .i64 2,.bool f1,.string f2,.string s,.string nilB,.bool false,.string nilB]))
   have HX5:=hid (show Ext w (wd.setRow y2 #[.int .i64 2,.bool f1,.string f2,.string s,.string nilB,.bool false,.string nilB]) from below_setRow HX3.out (by have:=HN.out;omega) _)
   generalize wd.setRow y2 #[.int .i64 2,.bool f1,.string f2,.string s,.string nilB,.bool false,.string nilB] = w5 at *
   repeat (first
    | (refine groX_pure rfl rfl ?_;intro K hK;go_simp;refine hK _ ?_;clear hK K)
    | (refine groX_read rfl rfl ?_;intro K S hS hK;go_simp;refine hK _ ?_;clear hK K hS S)
    | (refine groX_read rfl rfl ?_;intro K S hS hK;go_simp;refine ⟨hS _ ?_,hK _ ?_⟩;(clear hK K hS S;intro w' hx';have hce:=grows_some hx';go_simp);clear hK K hS S))
   refine groX_nil ?_
   go_wp2_with fail
   exact bodyPost_ret (results_row1 rfl rfl HZ5.out Tryz.underlying88 rfl (by kernel_rfl)) rfl ⟨rfl,HX5.out⟩
  | true =>
   cases eb with
   | false =>
    repeat (first
     | (refine groX_pure rfl rfl ?_;intro K hK;go_simp;refine hK _ ?_;clear hK K)
     | (refine groX_read rfl rfl ?_;intro K S hS hK;go_simp;refine hK _ ?_;clear hK K hS S)
     | (refine groX_read rfl rfl ?_;intro K S hS hK;go_simp;refine ⟨hS _ ?_,hK _ ?_⟩;(clear hK K hS S;intro w' hx';have hce:=grows_some hx';go_simp);clear hK K hS S))
    refine groX_store rfl rfl rfl _ _ _ rfl y2 ([.int .i64 2,.bool f1,.string f2,.string s,.string nilB,.bool false,.string nilB]) rfl rfl HB2.out (by simp) (by kernel_rfl) rfl (by simp [Value.oneCell']) ?_
    have HZ5:=hid (HB2.out.setRow ([.int .i64 2,.bool f1,.string f2,.string s,.string nilB,.bool false,.string nilB]))
    have HX5:=hid (show Ext w (wd.setRow y2 #[.int .i64 2,.bool f1,.string f2,.string s,.string nilB,.bool false,.string nilB]) from below_setRow HX3.out (by have:=HN.out;omega) _)
    generalize wd.setRow y2 #[.int .i64 2,.bool f1,.string f2,.string s,.string nilB,.bool false,.string nilB] = w5 at *
    repeat (first
     | (refine groX_pure rfl rfl ?_;intro K hK;go_simp;refine hK _ ?_;clear hK K)
     | (refine groX_read rfl rfl ?_;intro K S hS hK;go_simp;refine hK _ ?_;clear hK K hS S)
     | (refine groX_read rfl rfl ?_;intro K S hS hK;go_simp;refine ⟨hS _ ?_,hK _ ?_⟩;(clear hK K hS S;intro w' hx';have hce:=grows_some hx';go_simp);clear hK K hS S))
    refine groX_nil ?_
    go_wp2_with fail
    exact bodyPost_ret (results_row1 rfl rfl HZ5.out Tryz.underlying88 rfl (by kernel_rfl)) rfl ⟨rfl,HX5.out⟩
   | true =>
    repeat (first
     | (refine groX_pure rfl rfl ?_;intro K hK;go_simp;refine hK _ ?_;clear hK K)
     | (refine groX_read rfl rfl ?_;intro K S hS hK;go_simp;refine hK _ ?_;clear hK K hS S)
     | (refine groX_read rfl rfl ?_;intro K S hS hK;go_simp;refine ⟨hS _ ?_,hK _ ?_⟩;(clear hK K hS S;intro w' hx';have hce:=grows_some hx';go_simp);clear hK K hS S))
    refine groX_store rfl rfl rfl _ _ _ rfl y2 ([.int .i64 2,.bool f1,.string f2,.string s,.string nilB,.bool false,.string nilB]) rfl rfl HB2.out (by simp) (by kernel_rfl) rfl (by simp [Value.oneCell']) ?_
    have HZ5:=hid (HB2.out.setRow ([.int .i64 2,.bool f1,.string f2,.string s,.string nilB,.bool false,.string nilB]))
    have HX5:=hid (show Ext w (wd.setRow y2 #[.int .i64 2,.bool f1,.string f2,.string s,.string nilB,.bool false,.string nilB]) from below_setRow HX3.out (by have:=HN.out;omega) _)
    generalize wd.setRow y2 #[.int .i64 2,.bool f1,.string f2,.string s,.string nilB,.bool false,.string nilB] = w5 at *
    repeat (first
     | (refine groX_pure rfl rfl ?_;intro K hK;go_simp;refine hK _ ?_;clear hK K)
     | (refine groX_read rfl rfl ?_;intro K S hS hK;go_simp;refine hK _ ?_;clear hK K hS S)
     | (refine groX_read rfl rfl ?_;intro K S hS hK;go_simp;refine ⟨hS _ ?_,hK _ ?_⟩;(clear hK K hS S;intro w' hx';have hce:=grows_some hx';go_simp);clear hK K hS S))
    refine groX_nil ?_
    go_wp2_with fail
    exact bodyPost_ret (results_row1 rfl rfl HZ5.out Tryz.underlying88 rfl (by kernel_rfl)) rfl ⟨rfl,HX5.out⟩
set_option maxHeartbeats 4000000 in
theorem backR_2 (hV:DicV w (hv A) D) (hVV:Strs w vv V) :
 Calls Tryz.prog 71 #[.agg (dcells (hv A)).toArray,vv,.agg #[.int .i64 2,.int .i64 nm,.int .i64 a1,.int .i64 a2,.int .i64 b1,.int .i64 b2]] w fun e w'=>e = .returned (.tuple #[.agg #[.int .i64 3,.bool (termT D V ⟨b1,b2⟩).1.1,.string (termT D V ⟨b1,b2⟩).1.2,.string (nmT D 3 nm).1,.string (nmT D 4 a2).1,.bool false,.string nilB],.bool ((termT D V ⟨b1,b2⟩).2 && (nmT D 3 nm).2 && (nmT D 4 a2).2 && decide (a1 = -1))]) ∧ Ext w w':=by
 have hmo:Tryz.prog.follows .mixedOrders = true:=by kernel_rfl
 obtain ⟨vb,hvb⟩:∃ b,decide (a1 = -1) = b:=⟨_,rfl⟩
 rw [hvb]
 have n1:(a1 == -1) = vb:=by rw [← hvb];rfl
 clear hvb
 have hna:=fun w' (hx:Ext w w')=>nameR_any A D 3 nm w' (hV.ext hx) (by omega)
 obtain ⟨Nna,hN⟩:∃ N,nmT D 3 nm = N:=⟨_,rfl⟩
 rw [hN] at hna
 rw [hN]
 clear hN
 obtain ⟨s,sb⟩:=Nna
 dsimp only at hna
 try dsimp only
 have HNA:=hid hna
 clear hna
 have hnc:=fun w' (hx:Ext w w')=>nameR_any A D 4 a2 w' (hV.ext hx) (by omega)
 obtain ⟨Nnc,hN⟩:∃ N,nmT D 4 a2 = N:=⟨_,rfl⟩
 rw [hN] at hnc
 rw [hN]
 clear hN
 obtain ⟨t,tb⟩:=Nnc
 dsimp only at hnc
 try dsimp only
 have HNC:=hid hnc
 clear hnc
 have hd1:=fun w' (hx:Ext w w')=>termR_any A D V vv ⟨b1,b2⟩ w' (hV.ext hx) (Strs.ext hVV hx)
 obtain ⟨Z,hZ⟩:∃ Z,termT D V ⟨b1,b2⟩ = Z:=⟨_,rfl⟩
 rw [hZ] at hd1
 rw [hZ]
 clear hZ
 obtain ⟨⟨g1,g2⟩,go⟩:=Z
 dsimp only at hd1
 try dsimp only
 have HD1:=hid hd1
 clear hd1
 have hc0:=fun w' (hx:Ext w w')=>termR_any A D V vv ⟨a1,a2⟩ w' (hV.ext hx) (Strs.ext hVV hx)
 obtain ⟨X,hX⟩:∃ X,termT D V ⟨a1,a2⟩ = X:=⟨_,rfl⟩
 rw [hX] at hc0
 try rw [hX]
 clear hX
 obtain ⟨⟨f1,f2⟩,fo⟩:=X
 dsimp only at hc0
 try dsimp only
 have HC0:=hid hc0
 clear hc0 hV hVV
 have hbx:=boxes3 w (dcells (hv A)) 28 ([.int .i64 2,.int .i64 nm,.int .i64 a1,.int .i64 a2,.int .i64 b1,.int .i64 b2]) 75 ([.int .i64 0,.bool false,.string ⟨#[]⟩,.string ⟨#[]⟩,.string ⟨#[]⟩,.bool false,.string ⟨#[]⟩]) 88
 have HBX:=hid hbx
 clear hbx
 go_enter Tryz.func71,Tryz.ntmps71
 go_upto_region 1 with fail
 generalize ((w.alloc (.cells (dcells (hv A)).toArray 28)).alloc (.cells ([.int .i64 2,.int .i64 nm,.int .i64 a1,.int .i64 a2,.int .i64 b1,.int .i64 b2]).toArray 75)).alloc (.cells ([.int .i64 0,.bool false,.string ⟨#[]⟩,.string ⟨#[]⟩,.string ⟨#[]⟩,.bool false,.string ⟨#[]⟩]).toArray 88) = w1 at *
 obtain ⟨y0,hy0⟩:∃ x,w.heap.size = x:=⟨_,rfl⟩
 obtain ⟨y1,hy1⟩:∃ x,y0 + 1 = x:=⟨_,rfl⟩
 obtain ⟨y2,hy2⟩:∃ x,y1 + 1 = x:=⟨_,rfl⟩
 rw [hy0,hy1,hy2] at HBX
 simp only [hy0,hy1,hy2]
 have HN:=hid (show w.heap.size = y0 ∧ y0 + 1 = y1 ∧ y1 + 1 = y2 from ⟨hy0,hy1,hy2⟩)
 have HX:=hid HBX.out.1
 have H0:=hid HBX.out.2.1
 have H1:=hid HBX.out.2.2.1
 have H2:=hid HBX.out.2.2.2
 clear hy0 hy1 hy2 HBX
 have k2:=H1.out.cell (i:=2) rfl
 have k3:=H1.out.cell (i:=3) rfl
 apply wp_region_lit
 refine plain_load rfl _ _ rfl y0 rfl _ _ (H0.out) Tryz.underlying28 rfl (by kernel_rfl) ?_
 go_simp
 iterate 3 (refine wpList_plain rfl fun Y y'=>?_;go_simp;refine y' _ _ ?_;clear y' Y)
 refine wpList_plain rfl fun K1 hK1=>?_
 go_simp
 refine (HC0.out w1 HX.out).mono ?_;rintro e w2 ⟨rfl,hx2⟩
 go_simp
 refine hK1 _ _ ?_
 clear hK1 K1
 iterate 4 (refine wpList_plain rfl fun Y y'=>?_;go_simp;refine y' _ _ ?_;clear y' Y)
 have hax:=Ext.alloc w2 (.cells #[.bool false,.string ⟨#[]⟩] 86)
 have har:RowAt (w2.alloc (.cells #[.bool false,.string ⟨#[]⟩] 86)) w2.heap.size 86 (#[.bool false,.string ⟨#[]⟩]).toList:=RowAt.new _ _ _
 refine plain_store rfl _ _ _ rfl w2.heap.size ([.bool f1,.string f2]) rfl rfl har (by kernel_rfl) rfl ((by simp [Value.oneCell'])) ?_
 have hex:Ext w2 ((w2.alloc (.cells #[.bool false,.string ⟨#[]⟩] 86)).setRow w2.heap.size ([.bool f1,.string f2]).toArray):=below_setRow hax (Nat.le_refl _) _
 have HEw3:=hid hex
 have HRx:=hid (har.setRow ([.bool f1,.string f2]))
 clear hax har hex
 go_simp
 generalize (w2.alloc (.cells #[.bool false,.string ⟨#[]⟩] 86)).setRow w2.heap.size ([.bool f1,.string f2]).toArray = w3 at *
 obtain ⟨x,hsx⟩:∃ x,w2.heap.size = x:=⟨_,rfl⟩
 rw [hsx] at HRx
 simp only [hsx]
 have HSx:=hid hsx
 clear hsx
 (refine wpList_plain rfl fun Y y'=>?_;go_simp;refine y' _ _ ?_;clear y' Y)
 apply wpList_nil
 have hx3:=hx2.trans HEw3.out
 have HX3:=hid (HX.out.trans hx3)
 have G0:=hid (H0.out.ext hx3)
 have G1:=hid (H1.out.ext hx3)
 have HB2:=hid (H2.out.ext hx3)
 have HAX:=hid (show RowAt w3 x 86 [.bool f1,.string f2] from HRx.out)
 have HXL:=hid (show y2 < x by have h1:=H2.out.lt;have h2:=hx2.size;have h3:=HSx.out;omega)
 have hy1:¬ y1 ∈ [y2]:=by have:=HN.out;simp;omega
 have hy1':¬ y1 = y2:=by have:=HN.out;omega
 have hx1:¬ x ∈ [y2]:=by have:=HXL.out;simp;omega
 have hx1':¬ x = y2:=by have:=HXL.out;omega
 have hy0:¬ y0 ∈ [y2]:=by have:=HN.out;simp;omega
 clear hx2 hx3 HX H0 H1 H2 HEw3 HRx HSx HC0 k2 k3
 have k0:=G1.out.cell (i:=0) rfl
 have k1:=G1.out.cell (i:=1) rfl
 have k2:=G1.out.cell (i:=2) rfl
 have k3:=G1.out.cell (i:=3) rfl
 have k4:=G1.out.cell (i:=4) rfl
 have k5:=G1.out.cell (i:=5) rfl
 have j0:=HAX.out.cell (i:=0) rfl
 have j1:=HAX.out.cell (i:=1) rfl
 go_upto_region 9 with fail
 apply wp_region_lit
 refine plain_load rfl _ _ rfl y0 rfl _ _ (G0.out) Tryz.underlying28 rfl (by kernel_rfl) ?_
 go_simp
 iterate 3 (refine wpList_plain rfl fun Y y'=>?_;go_simp;refine y' _ _ ?_;clear y' Y)
 refine wpList_plain rfl fun K1 hK1=>?_
 go_simp
 refine (HNA.out w3 HX3.out).mono ?_;rintro e w4 ⟨rfl,hxw4⟩
 go_simp
 refine hK1 _ _ ?_
 clear hK1 K1
 iterate 5 (refine wpList_plain rfl fun Y y'=>?_;go_simp;refine y' _ _ ?_;clear y' Y)
 apply wpList_nil
 replace G0:=hid (G0.out.ext hxw4)
 replace G1:=hid (G1.out.ext hxw4)
 replace HB2:=hid (HB2.out.ext hxw4)
 replace HAX:=hid (HAX.out.ext hxw4)
 replace HX3:=hid (HX3.out.trans hxw4)
 clear hxw4 k0 k1 k2 k3 k4 k5 j0 j1
 have k0:=G1.out.cell (i:=0) rfl
 have k1:=G1.out.cell (i:=1) rfl
 have k2:=G1.out.cell (i:=2) rfl
 have k3:=G1.out.cell (i:=3) rfl
 have k4:=G1.out.cell (i:=4) rfl
 have k5:=G1.out.cell (i:=5) rfl
 have j0:=HAX.out.cell (i:=0) rfl
 have j1:=HAX.out.cell (i:=1) rfl
 go_upto_region 10 with fail
 apply wp_region_lit
 refine plain_load rfl _ _ rfl y0 rfl _ _ (G0.out) Tryz.underlying28 rfl (by kernel_rfl) ?_
 go_simp
 iterate 3 (refine wpList_plain rfl fun Y y'=>?_;go_simp;refine y' _ _ ?_;clear y' Y)
 refine wpList_plain rfl fun K1 hK1=>?_
 go_simp
 refine (HNC.out w4 HX3.out).mono ?_;rintro e w5 ⟨rfl,hxw5⟩
 go_simp
 refine hK1 _ _ ?_
 clear hK1 K1
 iterate 5 (refine wpList_plain rfl fun Y y'=>?_;go_simp;refine y' _ _ ?_;clear y' Y)
 apply wpList_nil
 replace G0:=hid (G0.out.ext hxw5)
 replace G1:=hid (G1.out.ext hxw5)
 replace HB2:=hid (HB2.out.ext hxw5)
 replace HAX:=hid (HAX.out.ext hxw5)
 replace HX3:=hid (HX3.out.trans hxw5)
 clear hxw5 k0 k1 k2 k3 k4 k5 j0 j1
 have k0:=G1.out.cell (i:=0) rfl
 have k1:=G1.out.cell (i:=1) rfl
 have k2:=G1.out.cell (i:=2) rfl
 have k3:=G1.out.cell (i:=3) rfl
 have k4:=G1.out.cell (i:=4) rfl
 have k5:=G1.out.cell (i:=5) rfl
 have j0:=HAX.out.cell (i:=0) rfl
 have j1:=HAX.out.cell (i:=1) rfl
 go_upto_region 11 with fail
 apply wp_region_lit
 refine plain_load rfl _ _ rfl y0 rfl _ _ (G0.out) Tryz.underlying28 rfl (by kernel_rfl) ?_
 go_simp
 iterate 3 (refine wpList_plain rfl fun Y y'=>?_;go_simp;refine y' _ _ ?_;clear y' Y)
 refine wpList_plain rfl fun K1 hK1=>?_
 go_simp
 refine (HD1.out w5 HX3.out).mono ?_;rintro e w6 ⟨rfl,hxw6⟩
 go_simp
 refine hK1 _ _ ?_
 clear hK1 K1
 iterate 4 (refine wpList_plain rfl fun Y y'=>?_;go_simp;refine y' _ _ ?_;clear y' Y)
 have hax:=Ext.alloc w6 (.cells #[.bool false,.string ⟨#[]⟩] 86)
 have har:RowAt (w6.alloc (.cells #[.bool false,.string ⟨#[]⟩] 86)) w6.heap.size 86 (#[.bool false,.string ⟨#[]⟩]).toList:=RowAt.new _ _ _
 refine plain_store rfl _ _ _ rfl w6.heap.size ([.bool g1,.string g2]) rfl rfl har (by kernel_rfl) rfl ((by simp [Value.oneCell'])) ?_
 have hex:Ext w6 ((w6.alloc (.cells #[.bool false,.string ⟨#[]⟩] 86)).setRow w6.heap.size ([.bool g1,.string g2]).toArray):=below_setRow hax (Nat.le_refl _) _
 have HEw7:=hid hex
 have HRz:=hid (har.setRow ([.bool g1,.string g2]))
 clear hax har hex
 go_simp
 generalize (w6.alloc (.cells #[.bool false,.string ⟨#[]⟩] 86)).setRow w6.heap.size ([.bool g1,.string g2]).toArray = w7 at *
 obtain ⟨z,hsz⟩:∃ x,w6.heap.size = x:=⟨_,rfl⟩
 rw [hsz] at HRz
 simp only [hsz]
 have HSz:=hid hsz
 clear hsz
 (refine wpList_plain rfl fun Y y'=>?_;go_simp;refine y' _ _ ?_;clear y' Y)
 apply wpList_nil
 have hxn:=hxw6.trans HEw7.out
 have HAZ:=hid (show RowAt w7 z 86 [.bool g1,.string g2] from HRz.out)
 have HZL:=hid (show y2 < z by have h1:=HB2.out.lt;have h2:=hxw6.size;have h3:=HSz.out;omega)
 have hz1:¬ z ∈ [y2]:=by have:=HZL.out;simp;omega
 have hz1':¬ z = y2:=by have:=HZL.out;omega
 clear hxw6 HEw7 HRz HSz
 replace G0:=hid (G0.out.ext hxn)
 replace G1:=hid (G1.out.ext hxn)
 replace HB2:=hid (HB2.out.ext hxn)
 replace HAX:=hid (HAX.out.ext hxn)
 replace HX3:=hid (HX3.out.trans hxn)
 clear hxn k0 k1 k2 k3 k4 k5 j0 j1
 have k0:=G1.out.cell (i:=0) rfl
 have k1:=G1.out.cell (i:=1) rfl
 have k2:=G1.out.cell (i:=2) rfl
 have k3:=G1.out.cell (i:=3) rfl
 have k4:=G1.out.cell (i:=4) rfl
 have k5:=G1.out.cell (i:=5) rfl
 have j0:=HAX.out.cell (i:=0) rfl
 have j1:=HAX.out.cell (i:=1) rfl
 have i0:=HAZ.out.cell (i:=0) rfl
 have i1:=HAZ.out.cell (i:=1) rfl
 go_upto_region 12 with fail
 obtain ⟨wz,hwz⟩:∃ x,x = w7:=⟨_,rfl⟩
 subst hwz
 refine wp_region_grox [y2] groQ12 [0,1,2,3,4,5,6,7,8,9,10,11,12,13,14,15,16,17,18] hmo (by kernel_rfl) rfl (by kernel_rfl) (fun _ _ _ _ _ h=>h) ?_
 have hxd:Ext wz wz.drew:=Ext.drewN wz 1
 generalize wz.drew = wd at *
 replace HAZ:=hid (HAZ.out.ext hxd)
 clear i0 i1
 have i0:=HAZ.out.cell (i:=0) rfl
 have i1:=HAZ.out.cell (i:=1) rfl
 replace G0:=hid (G0.out.ext hxd)
 replace G1:=hid (G1.out.ext hxd)
 replace HB2:=hid (HB2.out.ext hxd)
 replace HAX:=hid (HAX.out.ext hxd)
 replace HX3:=hid (HX3.out.trans hxd)
 clear hxd k0 k1 k2 k3 k4 k5 j0 j1
 have k0:=G1.out.cell (i:=0) rfl
 have k1:=G1.out.cell (i:=1) rfl
 have k2:=G1.out.cell (i:=2) rfl
 have k3:=G1.out.cell (i:=3) rfl
 have k4:=G1.out.cell (i:=4) rfl
 have k5:=G1.out.cell (i:=5) rfl
 have j0:=HAX.out.cell (i:=0) rfl
 have j1:=HAX.out.cell (i:=1) rfl
 cases go with
 | false =>
  repeat (first
   | (refine groX_pure rfl rfl ?_;intro K hK;go_simp;refine hK _ ?_;clear hK K)
   | (refine groX_read rfl rfl ?_;intro K S hS hK;go_simp;refine hK _ ?_;clear hK K hS S)
   | (refine groX_read rfl rfl ?_;intro K S hS hK;go_simp;refine ⟨hS _ ?_,hK _ ?_⟩;(clear hK K hS S;intro w' hx';have hce:=grows_some hx';go_simp);clear hK K hS S))
  refine groX_store rfl rfl rfl _ _ _ rfl y2 ([.int .i64 3,.bool g1,.string g2,.string s,.string t,.bool false,.string nilB]) rfl rfl HB2.out (by simp) (by kernel_rfl) rfl (by simp [Value.oneCell']) ?_
  have HZ5:=hid (HB2.out.setRow ([.int .i64 3,.bool g1,.string g2,.string s,.string t,.bool false,.string nilB]))
  have HX5:=hid (show Ext w (wd.setRow y2 #[.int .i64 3,.bool g1,.string g2,.string s,.string t,.bool false,.string nilB]) from below_setRow HX3.out (by have:=HN.out;omega) _)
  generalize wd.setRow y2 #[.int .i64 3,.bool g1,.string g2,.string s,.string t,.bool false,.string nilB] = w5 at *
  repeat (first
   | (refine groX_pure rfl rfl ?_;intro K hK;go_simp;refine hK _ ?_;clear hK K)
   | (refine groX_read rfl rfl ?_;intro K S hS hK;go_simp;refine hK _ ?_;clear hK K hS S)
   | (refine groX_read rfl rfl ?_;intro K S hS hK;go_simp;refine ⟨hS _ ?_,hK _ ?_⟩;(clear hK K hS S;intro w' hx';have hce:=grows_some hx';go_simp);clear hK K hS S))
  refine groX_nil ?_
  go_wp2_with fail
  exact bodyPost_ret (results_row1 rfl rfl HZ5.out Tryz.underlying88 rfl (by kernel_rfl)) rfl ⟨rfl,HX5.out⟩
 | true =>
  cases sb with
  | false =>
   repeat (first
    | (refine groX_pure rfl rfl ?_;intro K hK;go_simp;refine hK _ ?_;clear hK K)
    | (refine groX_read rfl rfl ?_;intro K S hS hK;go_simp;refine hK _ ?_;clear hK K hS S)
    | (refine groX_read rfl rfl ?_;intro K S hS hK;go_simp;refine ⟨hS _ ?_,hK _ ?_⟩;(clear hK K hS S;intro w' hx';have hce:=grows_some hx';go_simp);clear hK K hS S))
   refine groX_store rfl rfl rfl _ _ _ rfl y2 ([.int .i64 3,.bool g1,.string g2,.string s,.string t,.bool false,.string nilB]) rfl rfl HB2.out (by simp) (by kernel_rfl) rfl (by simp [Value.oneCell']) ?_
   have HZ5:=hid (HB2.out.setRow ([.int .i64 3,.bool g1,.string g2,.string s,.string t,.bool false,.string nilB]))
   have HX5:=hid (show Ext w (wd.setRow y2 #[.int .i64 3,.bool g1,.string g2,.string s,.string t,.bool false,.string nilB]) from below_setRow HX3.out (by have:=HN.out;omega) _)
   generalize wd.setRow y2 #[.int .i64 3,.bool g1,.string g2,.string s,.string t,.bool false,.string nilB] = w5 at *
   repeat (first
    | (refine groX_pure rfl rfl ?_;intro K hK;go_simp;refine hK _ ?_;clear hK K)
    | (refine groX_read rfl rfl ?_;intro K S hS hK;go_simp;refine hK _ ?_;clear hK K hS S)
    | (refine groX_read rfl rfl ?_;intro K S hS hK;go_simp;refine ⟨hS _ ?_,hK _ ?_⟩;(clear hK K hS S;intro w' hx';have hce:=grows_some hx';go_simp);clear hK K hS S))
   refine groX_nil ?_
   go_wp2_with fail
   exact bodyPost_ret (results_row1 rfl rfl HZ5.out Tryz.underlying88 rfl (by kernel_rfl)) rfl ⟨rfl,HX5.out⟩
  | true =>
   cases tb with
   | false =>
    repeat (first
     | (refine groX_pure rfl rfl ?_;intro K hK;go_simp;refine hK _ ?_;clear hK K)
     | (refine groX_read rfl rfl ?_;intro K S hS hK;go_simp;refine hK _ ?_;clear hK K hS S)
     | (refine groX_read rfl rfl ?_;intro K S hS hK;go_simp;refine ⟨hS _ ?_,hK _ ?_⟩;(clear hK K hS S;intro w' hx';have hce:=grows_some hx';go_simp);clear hK K hS S))
    refine groX_store rfl rfl rfl _ _ _ rfl y2 ([.int .i64 3,.bool g1,.string g2,.string s,.string t,.bool false,.string nilB]) rfl rfl HB2.out (by simp) (by kernel_rfl) rfl (by simp [Value.oneCell']) ?_
    have HZ5:=hid (HB2.out.setRow ([.int .i64 3,.bool g1,.string g2,.string s,.string t,.bool false,.string nilB]))
    have HX5:=hid (show Ext w (wd.setRow y2 #[.int .i64 3,.bool g1,.string g2,.string s,.string t,.bool false,.string nilB]) from below_setRow HX3.out (by have:=HN.out;omega) _)
    generalize wd.setRow y2 #[.int .i64 3,.bool g1,.string g2,.string s,.string t,.bool false,.string nilB] = w5 at *
    repeat (first
     | (refine groX_pure rfl rfl ?_;intro K hK;go_simp;refine hK _ ?_;clear hK K)
     | (refine groX_read rfl rfl ?_;intro K S hS hK;go_simp;refine hK _ ?_;clear hK K hS S)
     | (refine groX_read rfl rfl ?_;intro K S hS hK;go_simp;refine ⟨hS _ ?_,hK _ ?_⟩;(clear hK K hS S;intro w' hx';have hce:=grows_some hx';go_simp);clear hK K hS S))
    refine groX_nil ?_
    go_wp2_with fail
    exact bodyPost_ret (results_row1 rfl rfl HZ5.out Tryz.underlying88 rfl (by kernel_rfl)) rfl ⟨rfl,HX5.out⟩
   | true =>
    cases vb with
    | false =>
     repeat (first
      | (refine groX_pure rfl rfl ?_;intro K hK;go_simp;refine hK _ ?_;clear hK K)
      | (refine groX_read rfl rfl ?_;intro K S hS hK;go_simp;refine hK _ ?_;clear hK K hS S)
      | (refine groX_read rfl rfl ?_;intro K S hS hK;go_simp;refine ⟨hS _ ?_,hK _ ?_⟩;(clear hK K hS S;intro w' hx';have hce:=grows_some hx';go_simp);clear hK K hS S))
     refine groX_store rfl rfl rfl _ _ _ rfl y2 ([.int .i64 3,.bool g1,.string g2,.string s,.string t,.bool false,.string nilB]) rfl rfl HB2.out (by simp) (by kernel_rfl) rfl (by simp [Value.oneCell']) ?_
     have HZ5:=hid (HB2.out.setRow ([.int .i64 3,.bool g1,.string g2,.string s,.string t,.bool false,.string nilB]))
     have HX5:=hid (show Ext w (wd.setRow y2 #[.int .i64 3,.bool g1,.string g2,.string s,.string t,.bool false,.string nilB]) from below_setRow HX3.out (by have:=HN.out;omega) _)
     generalize wd.setRow y2 #[.int .i64 3,.bool g1,.string g2,.string s,.string t,.bool false,.string nilB] = w5 at *
     repeat (first
      | (refine groX_pure rfl rfl ?_;intro K hK;go_simp;refine hK _ ?_;clear hK K)
      | (refine groX_read rfl rfl ?_;intro K S hS hK;go_simp;refine hK _ ?_;clear hK K hS S)
      | (refine groX_read rfl rfl ?_;intro K S hS hK;go_simp;refine ⟨hS _ ?_,hK _ ?_⟩;(clear hK K hS S;intro w' hx';have hce:=grows_some hx';go_simp);clear hK K hS S))
     refine groX_nil ?_
     go_wp2_with fail
     exact bodyPost_ret (results_row1 rfl rfl HZ5.out Tryz.underlying88 rfl (by kernel_rfl)) rfl ⟨rfl,HX5.out⟩
    | true =>
     repeat (first
      | (refine groX_pure rfl rfl ?_;intro K hK;go_simp;refine hK _ ?_;clear hK K)
      | (refine groX_read rfl rfl ?_;intro K S hS hK;go_simp;refine hK _ ?_;clear hK K hS S)
      | (refine groX_read rfl rfl ?_;intro K S hS hK;go_simp;refine ⟨hS _ ?_,hK _ ?_⟩;(clear hK K hS S;intro w' hx';have hce:=grows_some hx';go_simp);clear hK K hS S))
     refine groX_store rfl rfl rfl _ _ _ rfl y2 ([.int .i64 3,.bool g1,.string g2,.string s,.string t,.bool false,.string nilB]) rfl rfl HB2.out (by simp) (by kernel_rfl) rfl (by simp [Value.oneCell']) ?_
     have HZ5:=hid (HB2.out.setRow ([.int .i64 3,.bool g1,.string g2,.string s,.string t,.bool false,.string nilB]))
     have HX5:=hid (show Ext w (wd.setRow y2 #[.int .i64 3,.bool g1,.string g2,.string s,.string t,.bool false,.string nilB]) from below_setRow HX3.out (by have:=HN.out;omega) _)
     generalize wd.setRow y2 #[.int .i64 3,.bool g1,.string g2,.string s,.string t,.bool false,.string nilB] = w5 at *
     repeat (first
      | (refine groX_pure rfl rfl ?_;intro K hK;go_simp;refine hK _ ?_;clear hK K)
      | (refine groX_read rfl rfl ?_;intro K S hS hK;go_simp;refine hK _ ?_;clear hK K hS S)
      | (refine groX_read rfl rfl ?_;intro K S hS hK;go_simp;refine ⟨hS _ ?_,hK _ ?_⟩;(clear hK K hS S;intro w' hx';have hce:=grows_some hx';go_simp);clear hK K hS S))
     refine groX_nil ?_
     go_wp2_with fail
     exact bodyPost_ret (results_row1 rfl rfl HZ5.out Tryz.underlying88 rfl (by kernel_rfl)) rfl ⟨rfl,HX5.out⟩
set_option maxHeartbeats 4000000 in
theorem backR_3 (hV:DicV w (hv A) D) (hVV:Strs w vv V) :
 Calls Tryz.prog 71 #[.agg (dcells (hv A)).toArray,vv,.agg #[.int .i64 3,.int .i64 nm,.int .i64 a1,.int .i64 a2,.int .i64 b1,.int .i64 b2]] w fun e w'=>e = .returned (.tuple #[.agg #[.int .i64 4,.bool (termT D V ⟨a1,a2⟩).1.1,.string (termT D V ⟨a1,a2⟩).1.2,.string (nmT D 2 nm).1,.string nilB,.bool (termT D V ⟨b1,b2⟩).1.1,.string (termT D V ⟨b1,b2⟩).1.2],.bool ((termT D V ⟨a1,a2⟩).2 && (termT D V ⟨b1,b2⟩).2 && (nmT D 2 nm).2)]) ∧ Ext w w':=by
 have hmo:Tryz.prog.follows .mixedOrders = true:=by kernel_rfl
 have hna:=fun w' (hx:Ext w w')=>nameR_any A D 2 nm w' (hV.ext hx) (by omega)
 obtain ⟨Nna,hN⟩:∃ N,nmT D 2 nm = N:=⟨_,rfl⟩
 rw [hN] at hna
 rw [hN]
 clear hN
 obtain ⟨s,sb⟩:=Nna
 dsimp only at hna
 try dsimp only
 have HNA:=hid hna
 clear hna
 have hd1:=fun w' (hx:Ext w w')=>termR_any A D V vv ⟨b1,b2⟩ w' (hV.ext hx) (Strs.ext hVV hx)
 obtain ⟨Z,hZ⟩:∃ Z,termT D V ⟨b1,b2⟩ = Z:=⟨_,rfl⟩
 rw [hZ] at hd1
 rw [hZ]
 clear hZ
 obtain ⟨⟨g1,g2⟩,go⟩:=Z
 dsimp only at hd1
 try dsimp only
 have HD1:=hid hd1
 clear hd1
 have hc0:=fun w' (hx:Ext w w')=>termR_any A D V vv ⟨a1,a2⟩ w' (hV.ext hx) (Strs.ext hVV hx)
 obtain ⟨X,hX⟩:∃ X,termT D V ⟨a1,a2⟩ = X:=⟨_,rfl⟩
 rw [hX] at hc0
 try rw [hX]
 clear hX
 obtain ⟨⟨f1,f2⟩,fo⟩:=X
 dsimp only at hc0
 try dsimp only
 have HC0:=hid hc0
 clear hc0 hV hVV
 have hbx:=boxes3 w (dcells (hv A)) 28 ([.int .i64 3,.int .i64 nm,.int .i64 a1,.int .i64 a2,.int .i64 b1,.int .i64 b2]) 75 ([.int .i64 0,.bool false,.string ⟨#[]⟩,.string ⟨#[]⟩,.string ⟨#[]⟩,.bool false,.string ⟨#[]⟩]) 88
 have HBX:=hid hbx
 clear hbx
 go_enter Tryz.func71,Tryz.ntmps71
 go_upto_region 1 with fail
 generalize ((w.alloc (.cells (dcells (hv A)).toArray 28)).alloc (.cells ([.int .i64 3,.int .i64 nm,.int .i64 a1,.int .i64 a2,.int .i64 b1,.int .i64 b2]).toArray 75)).alloc (.cells ([.int .i64 0,.bool false,.string ⟨#[]⟩,.string ⟨#[]⟩,.string ⟨#[]⟩,.bool false,.string ⟨#[]⟩]).toArray 88) = w1 at *
 obtain ⟨y0,hy0⟩:∃ x,w.heap.size = x:=⟨_,rfl⟩
 obtain ⟨y1,hy1⟩:∃ x,y0 + 1 = x:=⟨_,rfl⟩
 obtain ⟨y2,hy2⟩:∃ x,y1 + 1 = x:=⟨_,rfl⟩
 rw [hy0,hy1,hy2] at HBX
 simp only [hy0,hy1,hy2]
 have HN:=hid (show w.heap.size = y0 ∧ y0 + 1 = y1 ∧ y1 + 1 = y2 from ⟨hy0,hy1,hy2⟩)
 have HX:=hid HBX.out.1
 have H0:=hid HBX.out.2.1
 have H1:=hid HBX.out.2.2.1
 have H2:=hid HBX.out.2.2.2
 clear hy0 hy1 hy2 HBX
 have k2:=H1.out.cell (i:=2) rfl
 have k3:=H1.out.cell (i:=3) rfl
 apply wp_region_lit
 refine plain_load rfl _ _ rfl y0 rfl _ _ (H0.out) Tryz.underlying28 rfl (by kernel_rfl) ?_
 go_simp
 iterate 3 (refine wpList_plain rfl fun Y y'=>?_;go_simp;refine y' _ _ ?_;clear y' Y)
 refine wpList_plain rfl fun K1 hK1=>?_
 go_simp
 refine (HC0.out w1 HX.out).mono ?_;rintro e w2 ⟨rfl,hx2⟩
 go_simp
 refine hK1 _ _ ?_
 clear hK1 K1
 iterate 4 (refine wpList_plain rfl fun Y y'=>?_;go_simp;refine y' _ _ ?_;clear y' Y)
 have hax:=Ext.alloc w2 (.cells #[.bool false,.string ⟨#[]⟩] 86)
 have har:RowAt (w2.alloc (.cells #[.bool false,.string ⟨#[]⟩] 86)) w2.heap.size 86 (#[.bool false,.string ⟨#[]⟩]).toList:=RowAt.new _ _ _
 refine plain_store rfl _ _ _ rfl w2.heap.size ([.bool f1,.string f2]) rfl rfl har (by kernel_rfl) rfl ((by simp [Value.oneCell'])) ?_
 have hex:Ext w2 ((w2.alloc (.cells #[.bool false,.string ⟨#[]⟩] 86)).setRow w2.heap.size ([.bool f1,.string f2]).toArray):=below_setRow hax (Nat.le_refl _) _
 have HEw3:=hid hex
 have HRx:=hid (har.setRow ([.bool f1,.string f2]))
 clear hax har hex
 go_simp
 generalize (w2.alloc (.cells #[.bool false,.string ⟨#[]⟩] 86)).setRow w2.heap.size ([.bool f1,.string f2]).toArray = w3 at *
 obtain ⟨x,hsx⟩:∃ x,w2.heap.size = x:=⟨_,rfl⟩
 rw [hsx] at HRx
 simp only [hsx]
 have HSx:=hid hsx
 clear hsx
 (refine wpList_plain rfl fun Y y'=>?_;go_simp;refine y' _ _ ?_;clear y' Y)
 apply wpList_nil
 have hx3:=hx2.trans HEw3.out
 have HX3:=hid (HX.out.trans hx3)
 have G0:=hid (H0.out.ext hx3)
 have G1:=hid (H1.out.ext hx3)
 have HB2:=hid (H2.out.ext hx3)
 have HAX:=hid (show RowAt w3 x 86 [.bool f1,.string f2] from HRx.out)
 have HXL:=hid (show y2 < x by have h1:=H2.out.lt;have h2:=hx2.size;have h3:=HSx.out;omega)
 have hy1:¬ y1 ∈ [y2]:=by have:=HN.out;simp;omega
 have hy1':¬ y1 = y2:=by have:=HN.out;omega
 have hx1:¬ x ∈ [y2]:=by have:=HXL.out;simp;omega
 have hx1':¬ x = y2:=by have:=HXL.out;omega
 have hy0:¬ y0 ∈ [y2]:=by have:=HN.out;simp;omega
 clear hx2 hx3 HX H0 H1 H2 HEw3 HRx HSx HC0 k2 k3
 have k0:=G1.out.cell (i:=0) rfl
 have k1:=G1.out.cell (i:=1) rfl
 have k2:=G1.out.cell (i:=2) rfl
 have k3:=G1.out.cell (i:=3) rfl
 have k4:=G1.out.cell (i:=4) rfl
 have k5:=G1.out.cell (i:=5) rfl
 have j0:=HAX.out.cell (i:=0) rfl
 have j1:=HAX.out.cell (i:=1) rfl
 go_upto_region 14 with fail
 apply wp_region_lit
 refine plain_load rfl _ _ rfl y0 rfl _ _ (G0.out) Tryz.underlying28 rfl (by kernel_rfl) ?_
 go_simp
 iterate 3 (refine wpList_plain rfl fun Y y'=>?_;go_simp;refine y' _ _ ?_;clear y' Y)
 refine wpList_plain rfl fun K1 hK1=>?_
 go_simp
 refine (HNA.out w3 HX3.out).mono ?_;rintro e w4 ⟨rfl,hxw4⟩
 go_simp
 refine hK1 _ _ ?_
 clear hK1 K1
 iterate 5 (refine wpList_plain rfl fun Y y'=>?_;go_simp;refine y' _ _ ?_;clear y' Y)
 apply wpList_nil
 replace G0:=hid (G0.out.ext hxw4)
 replace G1:=hid (G1.out.ext hxw4)
 replace HB2:=hid (HB2.out.ext hxw4)
 replace HAX:=hid (HAX.out.ext hxw4)
 replace HX3:=hid (HX3.out.trans hxw4)
 clear hxw4 k0 k1 k2 k3 k4 k5 j0 j1
 have k0:=G1.out.cell (i:=0) rfl
 have k1:=G1.out.cell (i:=1) rfl
 have k2:=G1.out.cell (i:=2) rfl
 have k3:=G1.out.cell (i:=3) rfl
 have k4:=G1.out.cell (i:=4) rfl
 have k5:=G1.out.cell (i:=5) rfl
 have j0:=HAX.out.cell (i:=0) rfl
 have j1:=HAX.out.cell (i:=1) rfl
 go_upto_region 15 with fail
 apply wp_region_lit
 refine plain_load rfl _ _ rfl y0 rfl _ _ (G0.out) Tryz.underlying28 rfl (by kernel_rfl) ?_
 go_simp
 iterate 3 (refine wpList_plain rfl fun Y y'=>?_;go_simp;refine y' _ _ ?_;clear y' Y)
 refine wpList_plain rfl fun K1 hK1=>?_
 go_simp
 refine (HD1.out w4 HX3.out).mono ?_;rintro e w5 ⟨rfl,hxw5⟩
 go_simp
 refine hK1 _ _ ?_
 clear hK1 K1
 iterate 4 (refine wpList_plain rfl fun Y y'=>?_;go_simp;refine y' _ _ ?_;clear y' Y)
 have hax:=Ext.alloc w5 (.cells #[.bool false,.string ⟨#[]⟩] 86)
 have har:RowAt (w5.alloc (.cells #[.bool false,.string ⟨#[]⟩] 86)) w5.heap.size 86 (#[.bool false,.string ⟨#[]⟩]).toList:=RowAt.new _ _ _
 refine plain_store rfl _ _ _ rfl w5.heap.size ([.bool g1,.string g2]) rfl rfl har (by kernel_rfl) rfl ((by simp [Value.oneCell'])) ?_
 have hex:Ext w5 ((w5.alloc (.cells #[.bool false,.string ⟨#[]⟩] 86)).setRow w5.heap.size ([.bool g1,.string g2]).toArray):=below_setRow hax (Nat.le_refl _) _
 have HEw6:=hid hex
 have HRz:=hid (har.setRow ([.bool g1,.string g2]))
 clear hax har hex
 go_simp
 generalize (w5.alloc (.cells #[.bool false,.string ⟨#[]⟩] 86)).setRow w5.heap.size ([.bool g1,.string g2]).toArray = w6 at *
 obtain ⟨z,hsz⟩:∃ x,w5.heap.size = x:=⟨_,rfl⟩
 rw [hsz] at HRz
 simp only [hsz]
 have HSz:=hid hsz
 clear hsz
 (refine wpList_plain rfl fun Y y'=>?_;go_simp;refine y' _ _ ?_;clear y' Y)
 apply wpList_nil
 have hxn:=hxw5.trans HEw6.out
 have HAZ:=hid (show RowAt w6 z 86 [.bool g1,.string g2] from HRz.out)
 have HZL:=hid (show y2 < z by have h1:=HB2.out.lt;have h2:=hxw5.size;have h3:=HSz.out;omega)
 have hz1:¬ z ∈ [y2]:=by have:=HZL.out;simp;omega
 have hz1':¬ z = y2:=by have:=HZL.out;omega
 clear hxw5 HEw6 HRz HSz
 replace G0:=hid (G0.out.ext hxn)
 replace G1:=hid (G1.out.ext hxn)
 replace HB2:=hid (HB2.out.ext hxn)
 replace HAX:=hid (HAX.out.ext hxn)
 replace HX3:=hid (HX3.out.trans hxn)
 clear hxn k0 k1 k2 k3 k4 k5 j0 j1
 have k0:=G1.out.cell (i:=0) rfl
 have k1:=G1.out.cell (i:=1) rfl
 have k2:=G1.out.cell (i:=2) rfl
 have k3:=G1.out.cell (i:=3) rfl
 have k4:=G1.out.cell (i:=4) rfl
 have k5:=G1.out.cell (i:=5) rfl
 have j0:=HAX.out.cell (i:=0) rfl
 have j1:=HAX.out.cell (i:=1) rfl
 have i0:=HAZ.out.cell (i:=0) rfl
 have i1:=HAZ.out.cell (i:=1) rfl
 go_upto_region 16 with fail
 apply wp_region_lit
 refine plain_load rfl _ _ rfl x rfl _ _ (HAX.out) Tryz.underlying86 rfl (by kernel_rfl) ?_
 go_simp
 (refine wpList_plain rfl fun Y y'=>?_;go_simp;refine y' _ _ ?_;clear y' Y)
 refine plain_load rfl _ _ rfl z rfl _ _ (HAZ.out) Tryz.underlying86 rfl (by kernel_rfl) ?_
 go_simp
 refine wpList_built rfl _ _ rfl #[.int .i64 4,.bool f1,.string f2,.string s,.string nilB,.bool g1,.string g2] (by kernel_rfl) ?_
 iterate 2 (refine wpList_plain rfl fun Y y'=>?_;go_simp;refine y' _ _ ?_;clear y' Y)
 cases fo with
 | false =>
  refine wpList_not (by first | rfl | decide | kernel_rfl) ?_
  go_simp
  iterate 2 (refine wpList_plain rfl fun Y y'=>?_;go_simp;refine y' _ _ ?_;clear y' Y)
  refine wpList_not (by first | rfl | decide | kernel_rfl) ?_
  go_simp
  (refine wpList_plain rfl fun Y y'=>?_;go_simp;refine y' _ _ ?_;clear y' Y)
  refine plain_store rfl _ _ _ rfl y2 ([.int .i64 4,.bool f1,.string f2,.string s,.string nilB,.bool g1,.string g2]) rfl rfl (HB2.out) (by kernel_rfl) rfl ((by simp [Value.oneCell'])) ?_
  have HRR:=hid ((HB2.out).setRow ([.int .i64 4,.bool f1,.string f2,.string s,.string nilB,.bool g1,.string g2]))
  have HXX:=hid (show Ext w ((w6).setRow y2 ([.int .i64 4,.bool f1,.string f2,.string s,.string nilB,.bool g1,.string g2]).toArray) from below_setRow (HX3.out) ((by have:=HN.out;omega)) _)
  go_simp
  generalize (w6).setRow y2 ([.int .i64 4,.bool f1,.string f2,.string s,.string nilB,.bool g1,.string g2]).toArray = wend at *
  (refine wpList_plain rfl fun Y y'=>?_;go_simp;refine y' _ _ ?_;clear y' Y)
  apply wpList_nil
  go_wp2_with fail
  exact bodyPost_ret (results_row1 rfl rfl HRR.out Tryz.underlying88 rfl (by kernel_rfl)) rfl (⟨rfl,HXX.out⟩)
 | true =>
  cases go with
  | false =>
   (refine wpList_yes (by first|rfl|decide) fun Y y'=>?_;go_simp;refine y' _ _ ?_;clear y' Y)
   iterate 2 (refine wpList_plain rfl fun Y y'=>?_;go_simp;refine y' _ _ ?_;clear y' Y)
   refine wpList_not (by first | rfl | decide | kernel_rfl) ?_
   go_simp
   (refine wpList_plain rfl fun Y y'=>?_;go_simp;refine y' _ _ ?_;clear y' Y)
   refine plain_store rfl _ _ _ rfl y2 ([.int .i64 4,.bool f1,.string f2,.string s,.string nilB,.bool g1,.string g2]) rfl rfl (HB2.out) (by kernel_rfl) rfl ((by simp [Value.oneCell'])) ?_
   have HRR:=hid ((HB2.out).setRow ([.int .i64 4,.bool f1,.string f2,.string s,.string nilB,.bool g1,.string g2]))
   have HXX:=hid (show Ext w ((w6).setRow y2 ([.int .i64 4,.bool f1,.string f2,.string s,.string nilB,.bool g1,.string g2]).toArray) from below_setRow (HX3.out) ((by have:=HN.out;omega)) _)
   go_simp
   generalize (w6).setRow y2 ([.int .i64 4,.bool f1,.string f2,.string s,.string nilB,.bool g1,.string g2]).toArray = wend at *
   (refine wpList_plain rfl fun Y y'=>?_;go_simp;refine y' _ _ ?_;clear y' Y)
   apply wpList_nil
   go_wp2_with fail
   exact bodyPost_ret (results_row1 rfl rfl HRR.out Tryz.underlying88 rfl (by kernel_rfl)) rfl (⟨rfl,HXX.out⟩)
  | true =>
   (refine wpList_yes (by first|rfl|decide) fun Y y'=>?_;go_simp;refine y' _ _ ?_;clear y' Y)
   iterate 2 (refine wpList_plain rfl fun Y y'=>?_;go_simp;refine y' _ _ ?_;clear y' Y)
   (refine wpList_yes (by first|rfl|decide) fun Y y'=>?_;go_simp;refine y' _ _ ?_;clear y' Y)
   (refine wpList_plain rfl fun Y y'=>?_;go_simp;refine y' _ _ ?_;clear y' Y)
   refine plain_store rfl _ _ _ rfl y2 ([.int .i64 4,.bool f1,.string f2,.string s,.string nilB,.bool g1,.string g2]) rfl rfl (HB2.out) (by kernel_rfl) rfl ((by simp [Value.oneCell'])) ?_
   have HRR:=hid ((HB2.out).setRow ([.int .i64 4,.bool f1,.string f2,.string s,.string nilB,.bool g1,.string g2]))
   have HXX:=hid (show Ext w ((w6).setRow y2 ([.int .i64 4,.bool f1,.string f2,.string s,.string nilB,.bool g1,.string g2]).toArray) from below_setRow (HX3.out) ((by have:=HN.out;omega)) _)
   go_simp
   generalize (w6).setRow y2 ([.int .i64 4,.bool f1,.string f2,.string s,.string nilB,.bool g1,.string g2]).toArray = wend at *
   (refine wpList_plain rfl fun Y y'=>?_;go_simp;refine y' _ _ ?_;clear y' Y)
   apply wpList_nil
   go_wp2_with fail
   exact bodyPost_ret (results_row1 rfl rfl HRR.out Tryz.underlying88 rfl (by kernel_rfl)) rfl (⟨rfl,HXX.out⟩)
set_option maxHeartbeats 4000000 in
theorem backR_5 (kd:Int) (h0:kd ≠ 0) (h1:kd ≠ 1) (h2:kd ≠ 2) (h3:kd ≠ 3) (hV:DicV w (hv A) D) (hVV:Strs w vv V) :
 Calls Tryz.prog 71 #[.agg (dcells (hv A)).toArray,vv,.agg #[.int .i64 kd,.int .i64 nm,.int .i64 a1,.int .i64 a2,.int .i64 b1,.int .i64 b2]] w fun e w'=>e = .returned (.tuple #[.agg #[.int .i64 0,.bool false,.string ⟨#[]⟩,.string ⟨#[]⟩,.string ⟨#[]⟩,.bool false,.string ⟨#[]⟩],.bool false]) ∧ Ext w w':=by
 have q0:(kd == 0) = false:=by simpa using h0
 have q1:(kd == 1) = false:=by simpa using h1
 have q2:(kd == 2) = false:=by simpa using h2
 have q3:(kd == 3) = false:=by simpa using h3
 clear h0 h1 h2 h3
 have hc0:=fun w' (hx:Ext w w')=>termR_any A D V vv ⟨a1,a2⟩ w' (hV.ext hx) (Strs.ext hVV hx)
 obtain ⟨X,hX⟩:∃ X,termT D V ⟨a1,a2⟩ = X:=⟨_,rfl⟩
 rw [hX] at hc0
 try rw [hX]
 clear hX
 obtain ⟨⟨f1,f2⟩,fo⟩:=X
 dsimp only at hc0
 try dsimp only
 have HC0:=hid hc0
 clear hc0 hV hVV
 have hbx:=boxes3 w (dcells (hv A)) 28 ([.int .i64 kd,.int .i64 nm,.int .i64 a1,.int .i64 a2,.int .i64 b1,.int .i64 b2]) 75 ([.int .i64 0,.bool false,.string ⟨#[]⟩,.string ⟨#[]⟩,.string ⟨#[]⟩,.bool false,.string ⟨#[]⟩]) 88
 have HBX:=hid hbx
 clear hbx
 go_enter Tryz.func71,Tryz.ntmps71
 go_upto_region 1 with fail
 generalize ((w.alloc (.cells (dcells (hv A)).toArray 28)).alloc (.cells ([.int .i64 kd,.int .i64 nm,.int .i64 a1,.int .i64 a2,.int .i64 b1,.int .i64 b2]).toArray 75)).alloc (.cells ([.int .i64 0,.bool false,.string ⟨#[]⟩,.string ⟨#[]⟩,.string ⟨#[]⟩,.bool false,.string ⟨#[]⟩]).toArray 88) = w1 at *
 obtain ⟨y0,hy0⟩:∃ x,w.heap.size = x:=⟨_,rfl⟩
 obtain ⟨y1,hy1⟩:∃ x,y0 + 1 = x:=⟨_,rfl⟩
 obtain ⟨y2,hy2⟩:∃ x,y1 + 1 = x:=⟨_,rfl⟩
 rw [hy0,hy1,hy2] at HBX
 simp only [hy0,hy1,hy2]
 have HN:=hid (show w.heap.size = y0 ∧ y0 + 1 = y1 ∧ y1 + 1 = y2 from ⟨hy0,hy1,hy2⟩)
 have HX:=hid HBX.out.1
 have H0:=hid HBX.out.2.1
 have H1:=hid HBX.out.2.2.1
 have H2:=hid HBX.out.2.2.2
 clear hy0 hy1 hy2 HBX
 have k2:=H1.out.cell (i:=2) rfl
 have k3:=H1.out.cell (i:=3) rfl
 apply wp_region_lit
 refine plain_load rfl _ _ rfl y0 rfl _ _ (H0.out) Tryz.underlying28 rfl (by kernel_rfl) ?_
 go_simp
 iterate 3 (refine wpList_plain rfl fun Y y'=>?_;go_simp;refine y' _ _ ?_;clear y' Y)
 refine wpList_plain rfl fun K1 hK1=>?_
 go_simp
 refine (HC0.out w1 HX.out).mono ?_;rintro e w2 ⟨rfl,hx2⟩
 go_simp
 refine hK1 _ _ ?_
 clear hK1 K1
 iterate 4 (refine wpList_plain rfl fun Y y'=>?_;go_simp;refine y' _ _ ?_;clear y' Y)
 have hax:=Ext.alloc w2 (.cells #[.bool false,.string ⟨#[]⟩] 86)
 have har:RowAt (w2.alloc (.cells #[.bool false,.string ⟨#[]⟩] 86)) w2.heap.size 86 (#[.bool false,.string ⟨#[]⟩]).toList:=RowAt.new _ _ _
 refine plain_store rfl _ _ _ rfl w2.heap.size ([.bool f1,.string f2]) rfl rfl har (by kernel_rfl) rfl ((by simp [Value.oneCell'])) ?_
 have hex:Ext w2 ((w2.alloc (.cells #[.bool false,.string ⟨#[]⟩] 86)).setRow w2.heap.size ([.bool f1,.string f2]).toArray):=below_setRow hax (Nat.le_refl _) _
 have HEw3:=hid hex
 have HRx:=hid (har.setRow ([.bool f1,.string f2]))
 clear hax har hex
 go_simp
 generalize (w2.alloc (.cells #[.bool false,.string ⟨#[]⟩] 86)).setRow w2.heap.size ([.bool f1,.string f2]).toArray = w3 at *
 obtain ⟨x,hsx⟩:∃ x,w2.heap.size = x:=⟨_,rfl⟩
 rw [hsx] at HRx
 simp only [hsx]
 have HSx:=hid hsx
 clear hsx
 (refine wpList_plain rfl fun Y y'=>?_;go_simp;refine y' _ _ ?_;clear y' Y)
 apply wpList_nil
 have hx3:=hx2.trans HEw3.out
 have HX3:=hid (HX.out.trans hx3)
 have G0:=hid (H0.out.ext hx3)
 have G1:=hid (H1.out.ext hx3)
 have HB2:=hid (H2.out.ext hx3)
 have HAX:=hid (show RowAt w3 x 86 [.bool f1,.string f2] from HRx.out)
 have HXL:=hid (show y2 < x by have h1:=H2.out.lt;have h2:=hx2.size;have h3:=HSx.out;omega)
 have hy1:¬ y1 ∈ [y2]:=by have:=HN.out;simp;omega
 have hy1':¬ y1 = y2:=by have:=HN.out;omega
 have hx1:¬ x ∈ [y2]:=by have:=HXL.out;simp;omega
 have hx1':¬ x = y2:=by have:=HXL.out;omega
 have hy0:¬ y0 ∈ [y2]:=by have:=HN.out;simp;omega
 clear hx2 hx3 HX H0 H1 H2 HEw3 HRx HSx HC0 k2 k3
 have k0:=G1.out.cell (i:=0) rfl
 have k1:=G1.out.cell (i:=1) rfl
 have k2:=G1.out.cell (i:=2) rfl
 have k3:=G1.out.cell (i:=3) rfl
 have k4:=G1.out.cell (i:=4) rfl
 have k5:=G1.out.cell (i:=5) rfl
 have j0:=HAX.out.cell (i:=0) rfl
 have j1:=HAX.out.cell (i:=1) rfl
 go_upto_region 17 with fail
 apply wp_region_lit
 refine wpList_built rfl _ _ rfl #[.int .i64 0,.bool false,.string ⟨#[]⟩,.string ⟨#[]⟩,.string ⟨#[]⟩,.bool false,.string ⟨#[]⟩] (by kernel_rfl) ?_
 refine plain_store rfl _ _ _ rfl y2 ([.int .i64 0,.bool false,.string ⟨#[]⟩,.string ⟨#[]⟩,.string ⟨#[]⟩,.bool false,.string ⟨#[]⟩]) rfl rfl (HB2.out) (by kernel_rfl) rfl ((by simp [Value.oneCell'])) ?_
 have HRR:=hid ((HB2.out).setRow ([.int .i64 0,.bool false,.string ⟨#[]⟩,.string ⟨#[]⟩,.string ⟨#[]⟩,.bool false,.string ⟨#[]⟩]))
 have HXX:=hid (show Ext w ((w3).setRow y2 ([.int .i64 0,.bool false,.string ⟨#[]⟩,.string ⟨#[]⟩,.string ⟨#[]⟩,.bool false,.string ⟨#[]⟩]).toArray) from below_setRow (HX3.out) ((by have:=HN.out;omega)) _)
 go_simp
 generalize (w3).setRow y2 ([.int .i64 0,.bool false,.string ⟨#[]⟩,.string ⟨#[]⟩,.string ⟨#[]⟩,.bool false,.string ⟨#[]⟩]).toArray = wend at *
 (refine wpList_plain rfl fun Y y'=>?_;go_simp;refine y' _ _ ?_;clear y' Y)
 apply wpList_nil
 go_wp2_with fail
 exact bodyPost_ret (results_row1 rfl rfl HRR.out Tryz.underlying88 rfl (by kernel_rfl)) rfl (⟨rfl,HXX.out⟩)
end
def atmT (D:Dic) (V:List ByteArray) (b:Bnd):Atm × Bool :=
 if b.kind = 0 then (⟨1,(termT D V b.a).1.1,(termT D V b.a).1.2,nilB,nilB,false,nilB⟩,(termT D V b.a).2 && decide (b.a = b.b) && decide (b.name = 0))
 else if b.kind = 1 then (⟨2,(termT D V b.a).1.1,(termT D V b.a).1.2,(nmT D 1 b.name).1,nilB,false,nilB⟩,(termT D V b.a).2 && (nmT D 1 b.name).2 && decide (b.a = b.b))
 else if b.kind = 2 then (⟨3,(termT D V b.b).1.1,(termT D V b.b).1.2,(nmT D 3 b.name).1,(nmT D 4 b.a.id).1,false,nilB⟩,(termT D V b.b).2 && (nmT D 3 b.name).2 && (nmT D 4 b.a.id).2 && decide (b.a.var = -1))
 else if b.kind = 3 then (⟨4,(termT D V b.a).1.1,(termT D V b.a).1.2,(nmT D 2 b.name).1,nilB,(termT D V b.b).1.1,(termT D V b.b).1.2⟩,(termT D V b.a).2 && (termT D V b.b).2 && (nmT D 2 b.name).2)
 else (⟨0,false,nilB,nilB,nilB,false,nilB⟩,false)
theorem backAR_any (A:Heads) (D:Dic) (V:List ByteArray) (vv:Value) (b:Bnd) (w:World) (hV:DicV w (hv A) D) (hVV:Strs w vv V) :
 Calls Tryz.prog 71 #[.agg (dcells (hv A)).toArray,vv,.agg (bndCells b).toArray] w fun e w'=>e = .returned (.tuple #[.agg (atCells (atmT D V b).1).toArray,.bool (atmT D V b).2]) ∧ Ext w w':=by
 obtain ⟨kd,nm,⟨a1,a2⟩,⟨b1,b2⟩⟩:=b
 unfold atmT
 dsimp only
 by_cases h0:kd = 0
 ·subst h0;rw [if_pos rfl];exact backR_0 A D V vv nm a1 a2 b1 b2 w hV hVV
 by_cases h1:kd = 1
 ·subst h1;rw [if_neg h0,if_pos rfl];exact backR_1 A D V vv nm a1 a2 b1 b2 w hV hVV
 by_cases h2:kd = 2
 ·subst h2;rw [if_neg h0,if_neg h1,if_pos rfl];exact backR_2 A D V vv nm a1 a2 b1 b2 w hV hVV
 by_cases h3:kd = 3
 ·subst h3;rw [if_neg h0,if_neg h1,if_neg h2,if_pos rfl];exact backR_3 A D V vv nm a1 a2 b1 b2 w hV hVV
 rw [if_neg h0,if_neg h1,if_neg h2,if_neg h3]
 exact backR_5 A D V vv nm a1 a2 b1 b2 w kd h0 h1 h2 h3 hV hVV
end

end Go.Proofs.YtkmbnghghbfkdaaGreat
