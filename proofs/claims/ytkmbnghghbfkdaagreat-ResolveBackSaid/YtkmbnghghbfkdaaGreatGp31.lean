/- The goal of a pattern. -/
import Derived.Test.YtkmbnghghbfkdaaGreatGp30
set_option linter.unusedSimpArgs false
set_option linter.unusedVariables false
set_option maxHeartbeats 2000000
set_option maxRecDepth 100000
namespace Go.Proofs.YtkmbnghghbfkdaaGreat
open Go.Lib (hid)

section
open Go.RowKit Go.Shelf Go.Sort
attribute [local go_sem] Oper.semAt_some wide_fn wide_depth
def golC (vv av rv hv:Value) (G:Gol):List Value:=[vv,av,rv,.bool G.count,.bool G.distinct,.bool G.limited,.int .i64 G.limit,.int .i64 G.offset,hv]
def golV (vv av rv hv:Value) (G:Gol):Value:=.agg (golC vv av rv hv G).toArray
def GolIn (B:Nat) (W:World) (v:Value) (G:Gol):Prop:=∃ vv av rv hv,v = golV vv av rv hv G ∧ W.ownsRow B 9 1 vv G.vars.length (G.vars.map Value.string) ∧ W.ownsRow B 75 6 av G.atoms.length (G.atoms.flatMap bndCells) ∧ W.ownsRow B 3 1 rv G.ret.length (G.ret.map (Value.int .i64)) ∧ W.ownsRow B 3 1 hv G.hint.length (G.hint.map (Value.int .i64))
theorem zGol_in (B:Nat) (W:World):GolIn B W (.agg #[.slice none 0 0,.slice none 0 0,.slice none 0 0,.bool false,.bool false,.bool false,.int .i64 0,.int .i64 0,.slice none 0 0]) zGol:=⟨.slice none 0 0,.slice none 0 0,.slice none 0 0,.slice none 0 0,rfl,World.ownsRow_nil _ _ _ _,World.ownsRow_nil _ _ _ _,World.ownsRow_nil _ _ _ _,World.ownsRow_nil _ _ _ _⟩
inductive OfR (D:Dic) (P:Pat):Gol → Int → Int → Prop
 | dict (h:¬ DicOK D):OfR D P zGol 0 160
 | pat (h:DicOK D) (h':P.okB = false):OfR D P zGol 0 261
 | unk (h:DicOK D) (h':P.okB = true) (hg:(bndsF D (varsS P.atoms) P.atoms).2 = false):OfR D P zGol ((bndsF D (varsS P.atoms) P.atoms).1.length + 1) 280
 | ok (h:DicOK D) (h':P.okB = true) (hg:(bndsF D (varsS P.atoms) P.atoms).2 = true):OfR D P (golOf P (bndsF D (varsS P.atoms) P.atoms).1) P.atoms.length 0
def OfQ (w:World) (D:Dic) (P:Pat) (e:Ending) (w':World):Prop:=∃ gv G n c,e = .returned (.tuple #[gv,.int .i64 n,.int .i64 c]) ∧ OfR D P G n c ∧ GolIn w.heap.size w' gv G ∧ Ext w w'
def groO15:Nat → Gro
 | 2=>.read
 | 5=>.grow
 | _=>.pure
def groO16:Nat → Gro
 | 0=>.read
 | 2=>.read
 | 4=>.grow
 | _=>.pure
theorem preF_len {α β:Type} (f:α → Option β):∀ l:List α,(preF f l).1.length ≤ l.length ∧ ((preF f l).2 = true → (preF f l).1.length = l.length)
 | []=>⟨Nat.le_refl _,fun _=>rfl⟩
 | a :: l=>by
  have ih:=preF_len f l
  rw [preF]
  cases f a with
  | none=>exact ⟨Nat.zero_le _,fun h=>by cases h⟩
  | some b=>exact ⟨by simpa using ih.1,fun h=>by simpa using ih.2 h⟩
theorem own_grows {X:List Nat} {w w':World} {B size n:Nat} {e:TypeId} {v:Value} {xs:List Value} (h:w.ownsRow B e size v n xs) (hg:Grows X w w') (hn:∀ b,v.ownBlock = some b → b ∉ X):w'.ownsRow B e size v n xs:=by
 refine ⟨h.1,?_⟩
 rcases h.2 with hnn | ⟨g',cap,cur,rfl,hbg,hgg,rest⟩
 ·exact .inl hnn
 ·exact .inr ⟨g',cap,cur,rfl,hbg,(hg.block g' (Array.getElem?_eq_some_iff.1 hgg).1 (hn g' rfl)).trans hgg,rest⟩
def GoalB (wq w2:World) (bg:Nat) (vv rv hv:Value) (P:Pat) (l:List Bnd):Prop:=∃ av',RowAt w2 bg 39 (golL vv av' rv hv P) ∧ w2.ownsRow wq.heap.size 75 6 av' l.length (l.flatMap bndCells) ∧ Grows [bg] wq w2
theorem tries_after {wq w2 w9:World} {bg:Nat} {vv rv hv:Value} {P:Pat} {l:List Bnd} (h:GoalB wq w2 bg vv rv hv P l) (hA:RowAt w2 wq.heap.size 4 [.bool false]) (hlt:bg < wq.heap.size)
 (h9:w9 = w2.setCell ⟨wq.heap.size,0,none⟩ (.bool true) ∨ ∃ o v,w9 = (w2.alloc o).setCell ⟨wq.heap.size,0,none⟩ v) :
 Grows [bg] wq w9 ∧ ∃ av',RowAt w9 bg 39 (golL vv av' rv hv P) ∧ w9.ownsRow wq.heap.size 75 6 av' l.length (l.flatMap bndCells):=by
 obtain ⟨av',hr,ho,hg⟩:=h
 have key:∀ (w3:World) (v:Value),Ext w2 w3 → Grows [bg] wq (w3.setCell ⟨wq.heap.size,0,none⟩ v) ∧ ∃ av',RowAt (w3.setCell ⟨wq.heap.size,0,none⟩ v) bg 39 (golL vv av' rv hv P) ∧ (w3.setCell ⟨wq.heap.size,0,none⟩ v).ownsRow wq.heap.size 75 6 av' l.length (l.flatMap bndCells):=by
  intro w3 v hx
  have hgs:=grown_set w3 wq.heap.size 0 v
  refine ⟨(hg.trans (Grows.ext hx)).below ?_,av',(hr.ext hx).kept hgs (fun e=>by have:=Option.some.inj e;omega),own_turn (own_ext ho hx) (hA.ext hx) (by decide) hgs⟩
  exact Below.setCell (p:=⟨wq.heap.size,0,none⟩) (Below.refl _ _) (Nat.le_refl _) _
 rcases h9 with rfl | ⟨o,v,rfl⟩
 ·exact key w2 _ (Ext.refl _)
 ·exact key (w2.alloc o) v (Ext.alloc _ _)
set_option maxHeartbeats 8000000 in
theorem goal_any (A:Heads) (D:Dic) (P:Pat) (pav prv phv:Value) (w:World) (hV:DicV w (hv A) D) (hS:DicS D) (hA:Ats w pav P.atoms) (hR:Strs w prv P.ret) (hH:Strs w phv P.hint) (hf:P.Fits) :
 Calls Tryz.prog 13 #[dv (hv A),patV pav prv phv P] w (OfQ w D P):=by
 have hmo:Tryz.prog.follows .mixedOrders = true:=by kernel_rfl
 obtain ⟨pa,pc,rfl,_,_⟩:=hA.shape
 obtain ⟨ra,rc,rfl,_,_⟩:=Sl.shape hR
 obtain ⟨ha,hc,rfl,_,_⟩:=Sl.shape hH
 have HDC:=hid (fun w' (hx:Ext w w')=>dcheck_any (hv A) D w' (hV.ext hx) hS)
 have HPC:=hid (fun w' (hx:Ext w w')=>checkP_any (patV (.slice pa P.atoms.length pc) (.slice ra P.ret.length rc) (.slice ha P.hint.length hc) P) P w' ⟨_,_,_,rfl,hA.ext hx,Strs.ext hR hx,Strs.ext hH hx⟩ hf)
 have HPV:=hid (fun w' (hx:Ext w w')=>varsP_any (patV (.slice pa P.atoms.length pc) (.slice ra P.ret.length rc) (.slice ha P.hint.length hc) P) P w' ⟨_,_,_,rfl,hA.ext hx,Strs.ext hR hx,Strs.ext hH hx⟩ hf)
 have HV:=hid hV
 have HS:=hid hS
 have HA:=hid hA
 have HRT:=hid hR
 have HHT:=hid hH
 have HFT:=hid hf
 clear hV hS hA hR hH hf
 unfold dv patV at *
 have hbx:=boxes3 w (dcells (hv A)) 28 (patL (.slice pa P.atoms.length pc) (.slice ra P.ret.length rc) (.slice ha P.hint.length hc) P) 35 ([.slice none 0 0,.slice none 0 0,.slice none 0 0,.bool false,.bool false,.bool false,.int .i64 0,.int .i64 0,.slice none 0 0]) 39
 have HBX:=hid hbx
 clear hbx
 go_enter Tryz.func13,Tryz.ntmps13
 go_upto_region 1 with fail
 generalize ((w.alloc (.cells (dcells (hv A)).toArray 28)).alloc (.cells (patL (.slice pa P.atoms.length pc) (.slice ra P.ret.length rc) (.slice ha P.hint.length hc) P).toArray 35)).alloc (.cells ([.slice none 0 0,.slice none 0 0,.slice none 0 0,.bool false,.bool false,.bool false,.int .i64 0,.int .i64 0,.slice none 0 0]).toArray 39) = w1 at *
 obtain ⟨y0,hy0⟩:∃ x,w.heap.size = x:=⟨_,rfl⟩
 obtain ⟨y1,hy1⟩:∃ x,y0 + 1 = x:=⟨_,rfl⟩
 obtain ⟨y2,hy2⟩:∃ x,y1 + 1 = x:=⟨_,rfl⟩
 rw [hy0,hy1,hy2] at HBX
 simp only [hy0,hy1,hy2]
 have HN:=hid (show w.heap.size = y0 ∧ y0 + 1 = y1 ∧ y1 + 1 = y2 from ⟨hy0,hy1,hy2⟩)
 have HX:=hid HBX.out.1
 have H0:=hid HBX.out.2.1
 have H1:=hid HBX.out.2.2.1
 have H2:=hid HBX.out.2.2.2
 clear hy0 hy1 hy2 HBX
 have HY:=hid (show y0 ≠ y2 ∧ y1 ≠ y2 ∧ w.heap.size ≤ y2 by have:=HN.out;omega)
 clear HN
 apply wp_region_lit
 refine plain_load rfl _ _ rfl y0 rfl _ _ (H0.out) Tryz.underlying28 rfl (by kernel_rfl) ?_
 go_simp
 refine wpList_plain rfl fun K1 hK1=>?_
 go_simp
 refine (HDC.out w1 HX.out).mono ?_;rintro e w2 ⟨r,rfl,hr1,hr2,hx2⟩
 go_simp
 refine hK1 _ _ ?_
 clear hK1 K1
 (refine wpList_plain rfl fun Y y'=>?_;go_simp;refine y' _ _ ?_;clear y' Y)
 apply wpList_nil
 have HX2:=hid (HX.out.trans hx2)
 have G0:=hid (H0.out.ext hx2)
 have G1:=hid (H1.out.ext hx2)
 have G2:=hid (H2.out.ext hx2)
 have HR2:=hid hr2
 clear hx2 HX H0 H1 H2 HDC hr2
 rcases hr1 with rfl | rfl
 case inr =>
  have hno:¬ DicOK D:=fun h=>by have:=HR2.out.2 h;omega
  have HO:=hid hno
  clear hno
  go_upto_region 3 with fail
  apply wp_region_lit
  iterate 2 (refine wpList_plain rfl fun Y y'=>?_;go_simp;refine y' _ _ ?_;clear y' Y)
  refine plain_store rfl _ _ _ rfl y2 ([.slice none 0 0,.slice none 0 0,.slice none 0 0,.bool false,.bool false,.bool false,.int .i64 0,.int .i64 0,.slice none 0 0]) rfl rfl (G2.out) (by kernel_rfl) rfl ((by simp [Value.oneCell'])) ?_
  have HRR:=hid ((G2.out).setRow ([.slice none 0 0,.slice none 0 0,.slice none 0 0,.bool false,.bool false,.bool false,.int .i64 0,.int .i64 0,.slice none 0 0]))
  have HXX:=hid (show Ext w ((w2).setRow y2 ([.slice none 0 0,.slice none 0 0,.slice none 0 0,.bool false,.bool false,.bool false,.int .i64 0,.int .i64 0,.slice none 0 0]).toArray) from below_setRow (HX2.out) (HY.out.2.2) _)
  go_simp
  generalize (w2).setRow y2 ([.slice none 0 0,.slice none 0 0,.slice none 0 0,.bool false,.bool false,.bool false,.int .i64 0,.int .i64 0,.slice none 0 0]).toArray = wend at *
  iterate 2 (refine wpList_plain rfl fun Y y'=>?_;go_simp;refine y' _ _ ?_;clear y' Y)
  apply wpList_nil
  go_wp2_with fail
  exact bodyPost_ret (results_row2 rfl rfl HRR.out Tryz.underlying39 rfl (by kernel_rfl)) rfl (⟨_,_,_,_,rfl,.dict HO.out,zGol_in _ _,HXX.out⟩)
 case inl =>
  have HOK:=hid (HR2.out.1 rfl)
  clear HR2
  go_upto_region 4 with fail
  apply wp_region_lit
  refine plain_load rfl _ _ rfl y1 rfl _ _ (G1.out) Tryz.underlying35 rfl (by kernel_rfl) ?_
  go_simp
  refine wpList_plain rfl fun K1 hK1=>?_
  go_simp
  refine (HPC.out w2 HX2.out).mono ?_;rintro e w3 ⟨rfl,hx3⟩
  go_simp
  refine hK1 _ _ ?_
  clear hK1 K1
  (refine wpList_plain rfl fun Y y'=>?_;go_simp;refine y' _ _ ?_;clear y' Y)
  apply wpList_nil
  have HX3:=hid (HX2.out.trans hx3)
  replace G0:=hid (G0.out.ext hx3)
  replace G1:=hid (G1.out.ext hx3)
  replace G2:=hid (G2.out.ext hx3)
  clear hx3 HX2 HPC
  obtain ⟨ok,hokb⟩:∃ b,P.okB = b:=⟨_,rfl⟩
  have HB:=hid hokb
  unfold checkE
  rw [hokb]
  clear hokb
  cases ok
  case false =>
   simp only [Bool.false_eq_true,if_false]
   go_upto_region 6 with fail
   apply wp_region_lit
   iterate 2 (refine wpList_plain rfl fun Y y'=>?_;go_simp;refine y' _ _ ?_;clear y' Y)
   refine plain_store rfl _ _ _ rfl y2 ([.slice none 0 0,.slice none 0 0,.slice none 0 0,.bool false,.bool false,.bool false,.int .i64 0,.int .i64 0,.slice none 0 0]) rfl rfl (G2.out) (by kernel_rfl) rfl ((by simp [Value.oneCell'])) ?_
   have HRR:=hid ((G2.out).setRow ([.slice none 0 0,.slice none 0 0,.slice none 0 0,.bool false,.bool false,.bool false,.int .i64 0,.int .i64 0,.slice none 0 0]))
   have HXX:=hid (show Ext w ((w3).setRow y2 ([.slice none 0 0,.slice none 0 0,.slice none 0 0,.bool false,.bool false,.bool false,.int .i64 0,.int .i64 0,.slice none 0 0]).toArray) from below_setRow (HX3.out) (HY.out.2.2) _)
   go_simp
   generalize (w3).setRow y2 ([.slice none 0 0,.slice none 0 0,.slice none 0 0,.bool false,.bool false,.bool false,.int .i64 0,.int .i64 0,.slice none 0 0]).toArray = wend at *
   iterate 2 (refine wpList_plain rfl fun Y y'=>?_;go_simp;refine y' _ _ ?_;clear y' Y)
   apply wpList_nil
   go_wp2_with fail
   exact bodyPost_ret (results_row2 rfl rfl HRR.out Tryz.underlying39 rfl (by kernel_rfl)) rfl (⟨_,_,_,_,rfl,.pat HOK.out HB.out,zGol_in _ _,HXX.out⟩)
  case true =>
   simp only [if_true]
   go_upto_region 7 with fail
   have hve:varsE P = varsS P.atoms:=by unfold varsE;rw [if_pos HB.out]
   rw [hve] at HPV
   have HWK:=hid (okB_walk HB.out HFT.out)
   have HPT:=hid (okB_parts HB.out)
   have HDI:=hid (varsS_distinct P.atoms)
   have hv32:=(okB_parts HB.out).2.1
   obtain ⟨V,hV⟩:∃ V,varsS P.atoms = V:=⟨_,rfl⟩
   have HVE:=hid hV
   rw [hV] at HPV HWK HPT HDI hv32
   clear hve hV
   apply wp_region_lit
   refine plain_load rfl _ _ rfl y1 rfl _ _ (G1.out) Tryz.underlying35 rfl (by kernel_rfl) ?_
   go_simp
   refine wpList_plain rfl fun K1 hK1=>?_
   go_simp
   refine (HPV.out w3 HX3.out).mono ?_;rintro e w4 ⟨u,rfl,hu,hx4⟩
   go_simp
   refine hK1 _ _ ?_
   clear hK1 K1
   (refine wpList_plain rfl fun Y y'=>?_;go_simp;refine y' _ _ ?_;clear y' Y)
   apply wpList_nil
   obtain ⟨va,vc,rfl⟩:=own_vw hu
   have HU:=hid (own_base hu HX3.out.size)
   have HX4:=hid (HX3.out.trans hx4)
   replace G0:=hid (G0.out.ext hx4)
   replace G1:=hid (G1.out.ext hx4)
   replace G2:=hid (G2.out.ext hx4)
   have HOF:=hid (of_any' A w4 va vc V (Sl.of_own hu) (by omega))
   have HV32:=hid hv32
   clear hx4 HX3 HPV hu hv32
   go_upto_region 8 with fail
   unfold dv at HOF
   apply wp_region_lit
   refine plain_load rfl _ _ rfl y0 rfl _ _ (G0.out) Tryz.underlying28 rfl (by kernel_rfl) ?_
   go_simp
   (refine wpList_plain rfl fun Y y'=>?_;go_simp;refine y' _ _ ?_;clear y' Y)
   refine wpList_plain rfl fun K1 hK1=>?_
   go_simp
   refine HOF.out.mono ?_;rintro e w5 ⟨m,rfl,hm,hx5⟩
   go_simp
   refine hK1 _ _ ?_
   clear hK1 K1
   have HM5:=hid hm
   have HX5:=hid (HX4.out.trans hx5)
   replace G1:=hid (G1.out.ext hx5)
   replace G2:=hid (G2.out.ext hx5)
   replace HU:=hid (own_ext HU.out hx5)
   clear hx5 HX4 HOF hm G0
   have HL5:=hid (show y2 < w5.heap.size from G2.out.lt)
   unfold nmV
   (refine wpList_plain rfl fun Y y'=>?_;go_simp;refine y' _ _ ?_;clear y' Y)
   have hax:=Ext.alloc w5 (.cells #[.slice none 0 0,.slice none 0 0,.slice none 0 0,.slice none 0 0,.slice none 0 0,.slice none 0 0,.slice none 0 0,.slice none 0 0,.slice none 0 0,.slice none 0 0,.map none,.slice none 0 0] 98)
   have har:RowAt (w5.alloc (.cells #[.slice none 0 0,.slice none 0 0,.slice none 0 0,.slice none 0 0,.slice none 0 0,.slice none 0 0,.slice none 0 0,.slice none 0 0,.slice none 0 0,.slice none 0 0,.map none,.slice none 0 0] 98)) w5.heap.size 98 (#[.slice none 0 0,.slice none 0 0,.slice none 0 0,.slice none 0 0,.slice none 0 0,.slice none 0 0,.slice none 0 0,.slice none 0 0,.slice none 0 0,.slice none 0 0,.map none,.slice none 0 0]).toList:=RowAt.new _ _ _
   refine plain_store rfl _ _ _ rfl w5.heap.size (nmL (hv A) m (.slice va V.length vc)) rfl rfl har (by kernel_rfl) rfl ((nm_one A m va V.length vc)) ?_
   have hex:Ext w5 ((w5.alloc (.cells #[.slice none 0 0,.slice none 0 0,.slice none 0 0,.slice none 0 0,.slice none 0 0,.slice none 0 0,.slice none 0 0,.slice none 0 0,.slice none 0 0,.slice none 0 0,.map none,.slice none 0 0] 98)).setRow w5.heap.size (nmL (hv A) m (.slice va V.length vc)).toArray):=below_setRow hax (Nat.le_refl _) _
   have HEw6:=hid hex
   have HRgn:=hid (har.setRow (nmL (hv A) m (.slice va V.length vc)))
   clear hax har hex
   go_simp
   generalize (w5.alloc (.cells #[.slice none 0 0,.slice none 0 0,.slice none 0 0,.slice none 0 0,.slice none 0 0,.slice none 0 0,.slice none 0 0,.slice none 0 0,.slice none 0 0,.slice none 0 0,.map none,.slice none 0 0] 98)).setRow w5.heap.size (nmL (hv A) m (.slice va V.length vc)).toArray = w6 at *
   obtain ⟨gn,hsgn⟩:∃ x,w5.heap.size = x:=⟨_,rfl⟩
   rw [hsgn] at HRgn
   simp only [hsgn]
   have HSgn:=hid hsgn
   clear hsgn
   apply wpList_nil
   have HX6:=hid (HX5.out.trans HEw6.out)
   have HM6:=hid (HM5.out.ext HEw6.out)
   replace G1:=hid (G1.out.ext HEw6.out)
   replace G2:=hid (G2.out.ext HEw6.out)
   replace HU:=hid (own_ext HU.out HEw6.out)
   have HGN:=hid (show y2 < gn by have:=HL5.out;have:=HSgn.out;omega)
   clear HEw6 HX5 HM5 HSgn HL5
   go_upto_region 9 with fail
   obtain ⟨k0,k1,k2,k3,k4,k5,k6,k7⟩:=row8_facts (show RowAt w6 y1 35 [.slice pa P.atoms.length pc,.slice ra P.ret.length rc,.bool P.count,.bool P.distinct,.bool P.limited,.int .i64 P.limit,.int .i64 P.offset,.slice ha P.hint.length hc] from G1.out)
   apply wp_region_lit
   iterate 12 (refine wpList_plain rfl fun Y y'=>?_;go_simp;refine y' _ _ ?_;clear y' Y)
   clear k0 k1 k2 k3 k4 k5 k6 k7
   (refine wpList_plain rfl fun Y y'=>?_;go_simp;refine y' _ _ ?_;clear y' Y)
   have hax:=Ext.alloc w6 (.cells #[.slice none 0 0,.slice none 0 0,.slice none 0 0,.bool false,.bool false,.bool false,.int .i64 0,.int .i64 0,.slice none 0 0] 39)
   have har:RowAt (w6.alloc (.cells #[.slice none 0 0,.slice none 0 0,.slice none 0 0,.bool false,.bool false,.bool false,.int .i64 0,.int .i64 0,.slice none 0 0] 39)) w6.heap.size 39 (#[.slice none 0 0,.slice none 0 0,.slice none 0 0,.bool false,.bool false,.bool false,.int .i64 0,.int .i64 0,.slice none 0 0]).toList:=RowAt.new _ _ _
   refine plain_store rfl _ _ _ rfl w6.heap.size (golL (.slice va V.length vc) (.slice none 0 0) (.slice none 0 0) (.slice none 0 0) P) rfl rfl har (by kernel_rfl) rfl ((by simp [golL,Value.oneCell'])) ?_
   have hex:Ext w6 ((w6.alloc (.cells #[.slice none 0 0,.slice none 0 0,.slice none 0 0,.bool false,.bool false,.bool false,.int .i64 0,.int .i64 0,.slice none 0 0] 39)).setRow w6.heap.size (golL (.slice va V.length vc) (.slice none 0 0) (.slice none 0 0) (.slice none 0 0) P).toArray):=below_setRow hax (Nat.le_refl _) _
   have HEw7:=hid hex
   have HRbg:=hid (har.setRow (golL (.slice va V.length vc) (.slice none 0 0) (.slice none 0 0) (.slice none 0 0) P))
   clear hax har hex
   go_simp
   generalize (w6.alloc (.cells #[.slice none 0 0,.slice none 0 0,.slice none 0 0,.bool false,.bool false,.bool false,.int .i64 0,.int .i64 0,.slice none 0 0] 39)).setRow w6.heap.size (golL (.slice va V.length vc) (.slice none 0 0) (.slice none 0 0) (.slice none 0 0) P).toArray = w7 at *
   obtain ⟨bg,hsbg⟩:∃ x,w6.heap.size = x:=⟨_,rfl⟩
   rw [hsbg] at HRbg
   simp only [hsbg]
   have HSbg:=hid hsbg
   clear hsbg
   apply wpList_nil
   have HX7:=hid (HX6.out.trans HEw7.out)
   have HM7:=hid (HM6.out.ext HEw7.out)
   have HN7:=hid (HRgn.out.ext HEw7.out)
   have HBG:=hid (show y2 < bg ∧ gn < bg by have:=HSbg.out;have:=(show RowAt w6 gn 98 (nmL (hv A) m (.slice va V.length vc)) from HRgn.out).lt;have:=HGN.out;omega)
   replace G1:=hid (G1.out.ext HEw7.out)
   replace G2:=hid (G2.out.ext HEw7.out)
   replace HU:=hid (own_ext HU.out HEw7.out)
   clear HEw7 HX6 HM6 HRgn HSbg
   go_upto_region 10 with fail
   obtain ⟨T,hT⟩:∃ T,(if P.ret = [] then V else P.ret) = T:=⟨_,rfl⟩
   obtain ⟨ta,tc,htc⟩:∃ (ta:Option Addr) (tc:Nat),(P.ret = [] ∧ T = V ∧ ta = va ∧ tc = vc) ∨ (P.ret ≠ [] ∧ T = P.ret ∧ ta = ra ∧ tc = rc):=by
    by_cases hr:P.ret = []
    ·rw [if_pos hr] at hT;exact ⟨va,vc,.inl ⟨hr,hT.symm,rfl,rfl⟩⟩
    ·rw [if_neg hr] at hT;exact ⟨ra,rc,.inr ⟨hr,hT.symm,rfl,rfl⟩⟩
   have HTE:=hid hT
   have HT:Hid (∀ W,Ext w W → W.ownsRow w.heap.size 9 1 (.slice va V.length vc) V.length (V.map Value.string) → Strs W (.slice ta T.length tc) T):=hid (by
    rcases htc with ⟨_,rfl,rfl,rfl⟩ | ⟨_,rfl,rfl,rfl⟩
    ·exact fun W _ ho=>Sl.of_own ho
    ·exact fun W hx _=>Strs.ext HRT.out hx)
   have HTI:Hid ((∀ s ∈ T,s ∈ V) ∧ T.length ≤ 1000000):=hid (by
    rcases htc with ⟨_,rfl,_⟩ | ⟨_,rfl,_⟩
    ·exact ⟨fun s h=>h,by have:=HV32.out;omega⟩
    ·exact ⟨fun s hs=>chosenG_sub HPT.out.2.2.1 s hs,by have:=chosenB_len HPT.out.2.2.1;have:=HV32.out;omega⟩)
   have HHI:Hid ((∀ s ∈ P.hint,s ∈ V) ∧ P.hint.length ≤ 1000000):=hid ⟨fun s hs=>chosenG_sub HPT.out.2.2.2.1 s hs,by have:=chosenB_len HPT.out.2.2.2.1;have:=HV32.out;omega⟩
   have HTC:=hid htc
   clear htc hT
   have k1:=G1.out.cell (i:=1) rfl
   go_upto_if 46 with fail
   clear k1
   go_cut [12] (fun s12 wx=>s12 = .slice ta T.length tc ∧ wx = w7)
   case first =>
    rcases HTC.out with ⟨hr,rfl,rfl,rfl⟩ | ⟨hr,rfl,rfl,rfl⟩
    ·have hl:((P.ret.length:Int) == 0) = true:=by rw [hr];rfl
     clear hr HTE
     go_wp2_with fail
     go_meet
     exact ⟨rfl,rfl⟩
    ·have hl:((P.ret.length:Int) == 0) = false:=by
      have:=List.length_pos_iff.2 hr
      rw [beq_eq_false_iff_ne];omega
     clear hr HTE
     go_wp2_with fail
     go_meet
     exact ⟨rfl,rfl⟩
   case rest =>
    obtain ⟨rfl,rfl⟩:=hcut
    go_upto_region 13 with fail
    refine wp_region_inv [48,49,50,51,52,53,54,55,56,57,9999,58] _ (fun i=>([[],[],[0,1],[2],[],[],[5],[4,6],[7],[],[3,9],[],[8,11]]:List (List Nat)).getD i []) (fun S us W=>∃ p2:Nat,∃ p3:Nat,∃ s1:Value,∃ q2:Nat,∃ q3:Nat,∃ s2:Value,PlS [some (.agg (nmL (hv A) m (.slice va V.length vc)).toArray),some (.slice ta T.length tc),some (.func (.func 86) #[] #[.pointer (some ⟨p3,0,none⟩),.pointer (some ⟨p2,0,none⟩)]),some (s1),some (.agg (nmL (hv A) m (.slice va V.length vc)).toArray),some (.pointer (some ⟨y1,7,none⟩)),some (.slice ha P.hint.length hc),some (.func (.func 86) #[] #[.pointer (some ⟨q3,0,none⟩),.pointer (some ⟨q2,0,none⟩)]),some (s2),some (.pointer (some ⟨bg,2,none⟩)),some (undef),some (.pointer (some ⟨bg,8,none⟩))] S us ∧ (fun S W=>Ext w W ∧ RowAt W y1 35 (patL (.slice pa P.atoms.length pc) (.slice ra P.ret.length rc) (.slice ha P.hint.length hc) P) ∧ RowAt W gn 98 (nmL (hv A) m (.slice va V.length vc)) ∧ VarsAt W m V ∧ W.ownsRow w.heap.size 9 1 (.slice va V.length vc) V.length (V.map Value.string) ∧ RowAt W y2 39 [.slice none 0 0,.slice none 0 0,.slice none 0 0,.bool false,.bool false,.bool false,.int .i64 0,.int .i64 0,.slice none 0 0] ∧ RowAt W bg 39 (golL (.slice va V.length vc) (.slice none 0 0) (if S 10 = true then s1 else .slice none 0 0) (if S 12 = true then s2 else .slice none 0 0) P) ∧ (S 2 = true → RowAt W p2 98 (nmL (hv A) m (.slice va V.length vc)) ∧ RowAt W p3 22 [.slice ta T.length tc]) ∧ (S 3 = true → W.ownsRow w.heap.size 3 1 s1 T.length ((T.map (findF V)).map (Value.int .i64))) ∧ (S 7 = true → RowAt W q2 98 (nmL (hv A) m (.slice va V.length vc)) ∧ RowAt W q3 22 [.slice ha P.hint.length hc]) ∧ (S 8 = true → W.ownsRow w.heap.size 3 1 s2 P.hint.length ((P.hint.map (findF V)).map (Value.int .i64))) ∧ (S 10 = true → S 3 = true) ∧ (S 12 = true → S 8 = true)) S W) hmo (by kernel_rfl) (by kernel_rfl) (puts_self _ _) ⟨0,0,undef,0,0,undef,PlS.start rfl,⟨HX7.out.trans (Ext.drewN _ 1),G1.out.ext (Ext.drewN _ 1),HN7.out.ext (Ext.drewN _ 1),HM7.out.ext (Ext.drewN _ 1),own_ext HU.out (Ext.drewN _ 1),G2.out.ext (Ext.drewN _ 1),by simp only [Bool.false_eq_true,if_false];exact HRbg.out.ext (Ext.drewN _ 1),nofun,nofun,nofun,nofun,nofun,nofun⟩⟩ ?_ ?_
    ·refine ⟨?_,?_,?_,?_,?_,?_,?_,?_,?_,?_,?_,?_,?_,trivial⟩
     all_goals
      rintro S us wq hd hn ⟨p2,p3,s1,q2,q3,s2,hF,hI⟩ K hK
      obtain ⟨u0,u1,u2,u3,u4,u5,u6,u7,u8,u9,u10,u11,rfl⟩:=len12 hF.len rfl
      have HK:=hid (fun us' w'' p2' p3' s1' q2' q3' s2' h hi=>hK us' w'' ⟨p2',p3',s1',q2',q3',s2',h,hi⟩)
      have HF:=hid hF
      have HN:=hid hn
      have HD:=hid hd
      clear hK hF hn hd
      simp only [puts,Act.put,qA,qB,qC,List.set_nil]
     ·have hk:=HK.out _ wq p2 p3 s1 q2 q3 s2 (HF.out.put (i:=0) (v:=.agg (nmL (hv A) m (.slice va V.length vc)).toArray) rfl) hI
      simp only [puts,Act.put,qA,qB,qC,List.set_nil] at hk
      rw [if_pos (show Region.wanted _ _ = true from rfl)]
      refine wp_load_mid _ _ rfl gn 0 rfl _ _ (hI.2.2.1.whole) Tryz.underlying98 rfl (by kernel_rfl) ?_
      exact hk
     ·have hk:=HK.out _ wq p2 p3 s1 q2 q3 s2 (HF.out.put (i:=1) (v:=.slice ta T.length tc) rfl) hI
      simp only [puts,Act.put,qA,qB,qC,List.set_nil] at hk
      go_simp
      exact hk
     ·obtain rfl:=HF.out.got (HD.out 0 (by decide)) (i:=0) rfl rfl
      obtain rfl:=HF.out.got (HD.out 1 (by decide)) (i:=1) rfl rfl
      go_simp
      refine (places_any (hv A) m (.slice va V.length vc) _ _ _ wq).mono ?_
      rintro e w2 ⟨c2,c3,rfl,hc2,hc3,hx2⟩
      have hk:=HK.out _ w2 c2 c3 s1 q2 q3 s2 (HF.out.new (i:=2) (.func (.func 86) #[] #[.pointer (some ⟨c3,0,none⟩),.pointer (some ⟨c2,0,none⟩)]) HN.out (by show 2 < 12;decide)) ⟨hI.1.trans hx2,hI.2.1.ext hx2,hI.2.2.1.ext hx2,hI.2.2.2.1.ext hx2,own_ext hI.2.2.2.2.1 hx2,hI.2.2.2.2.2.1.ext hx2,hI.2.2.2.2.2.2.1.ext hx2,fun _=>⟨hc2,hc3⟩,fun h=>own_ext (hI.2.2.2.2.2.2.2.2.1 h) hx2,fun h=>⟨(hI.2.2.2.2.2.2.2.2.2.1 h).1.ext hx2,(hI.2.2.2.2.2.2.2.2.2.1 h).2.ext hx2⟩,fun h=>own_ext (hI.2.2.2.2.2.2.2.2.2.2.1 h) hx2,hI.2.2.2.2.2.2.2.2.2.2.2.1,hI.2.2.2.2.2.2.2.2.2.2.2.2⟩
      simp only [puts,Act.put,qA,qB,qC,List.set_nil] at hk
      go_simp
      exact hk
     ·obtain rfl:=HF.out.got (HD.out 2 (by decide)) (i:=2) rfl rfl
      obtain ⟨hr2,hr3⟩:=hI.2.2.2.2.2.2.2.1 (HD.out 2 (by decide))
      have hn:=HN.out
      have hz:S 10 = false:=by cases h:S 10;rfl;exact absurd (hI.2.2.2.2.2.2.2.2.2.2.2.1 h) (by rw [hn];decide)
      have hst:Strs wq (.slice ta T.length tc) T:=HT.out wq hI.1 hI.2.2.2.2.1
      go_simp
      refine (collect_any (hv A) m (.slice va V.length vc) V T _ _ p2 p3 wq hr2 hr3 hst hI.2.2.2.1 HDI.out HTI.out.1 HTI.out.2).mono ?_
      rintro e w2 ⟨u,rfl,hu,hx2⟩
      rw [List.length_map] at hu
      have hgr:=hI.2.2.2.2.2.2.1.ext hx2
      rw [hz] at hgr
      simp only [Bool.false_eq_true,if_false] at hgr
      have hk:=HK.out _ w2 p2 p3 u q2 q3 s2 (HF.out.new (i:=3) u HN.out (by show 3 < 12;decide)) ⟨hI.1.trans hx2,hI.2.1.ext hx2,hI.2.2.1.ext hx2,hI.2.2.2.1.ext hx2,own_ext hI.2.2.2.2.1 hx2,hI.2.2.2.2.2.1.ext hx2,(by rw [show updB S 3 10 = S 10 from rfl,show updB S 3 12 = S 12 from rfl,hz];simp only [Bool.false_eq_true,if_false];exact hgr),fun h=>⟨(hI.2.2.2.2.2.2.2.1 h).1.ext hx2,(hI.2.2.2.2.2.2.2.1 h).2.ext hx2⟩,fun _=>own_base hu hI.1.size,fun h=>⟨(hI.2.2.2.2.2.2.2.2.2.1 h).1.ext hx2,(hI.2.2.2.2.2.2.2.2.2.1 h).2.ext hx2⟩,fun h=>own_ext (hI.2.2.2.2.2.2.2.2.2.2.1 h) hx2,fun _=>rfl,hI.2.2.2.2.2.2.2.2.2.2.2.2⟩
      simp only [puts,Act.put,qA,qB,qC,List.set_nil] at hk
      go_simp
      exact hk
     ·have hk:=HK.out _ wq p2 p3 s1 q2 q3 s2 (HF.out.put (i:=4) (v:=.agg (nmL (hv A) m (.slice va V.length vc)).toArray) rfl) hI
      simp only [puts,Act.put,qA,qB,qC,List.set_nil] at hk
      rw [if_pos (show Region.wanted _ _ = true from rfl)]
      refine wp_load_mid _ _ rfl gn 0 rfl _ _ (hI.2.2.1.whole) Tryz.underlying98 rfl (by kernel_rfl) ?_
      exact hk
     ·have hk:=HK.out _ wq p2 p3 s1 q2 q3 s2 (HF.out.put (i:=5) (v:=.pointer (some ⟨y1,7,none⟩)) rfl) hI
      simp only [puts,Act.put,qA,qB,qC,List.set_nil] at hk
      go_simp
      exact hk
     ·obtain rfl:=HF.out.got (HD.out 5 (by decide)) (i:=5) rfl rfl
      have c:=hI.2.1.cell (i:=7) rfl
      have hk:=HK.out _ wq p2 p3 s1 q2 q3 s2 (HF.out.put (i:=6) (v:=.slice ha P.hint.length hc) rfl) hI
      simp only [puts,Act.put,qA,qB,qC,List.set_nil] at hk
      go_simp
      exact hk
     ·obtain rfl:=HF.out.got (HD.out 4 (by decide)) (i:=4) rfl rfl
      obtain rfl:=HF.out.got (HD.out 6 (by decide)) (i:=6) rfl rfl
      go_simp
      refine (places_any (hv A) m (.slice va V.length vc) _ _ _ wq).mono ?_
      rintro e w2 ⟨c2,c3,rfl,hc2,hc3,hx2⟩
      have hk:=HK.out _ w2 p2 p3 s1 c2 c3 s2 (HF.out.new (i:=7) (.func (.func 86) #[] #[.pointer (some ⟨c3,0,none⟩),.pointer (some ⟨c2,0,none⟩)]) HN.out (by show 7 < 12;decide)) ⟨hI.1.trans hx2,hI.2.1.ext hx2,hI.2.2.1.ext hx2,hI.2.2.2.1.ext hx2,own_ext hI.2.2.2.2.1 hx2,hI.2.2.2.2.2.1.ext hx2,hI.2.2.2.2.2.2.1.ext hx2,fun h=>⟨(hI.2.2.2.2.2.2.2.1 h).1.ext hx2,(hI.2.2.2.2.2.2.2.1 h).2.ext hx2⟩,fun h=>own_ext (hI.2.2.2.2.2.2.2.2.1 h) hx2,fun _=>⟨hc2,hc3⟩,fun h=>own_ext (hI.2.2.2.2.2.2.2.2.2.2.1 h) hx2,hI.2.2.2.2.2.2.2.2.2.2.2.1,hI.2.2.2.2.2.2.2.2.2.2.2.2⟩
      simp only [puts,Act.put,qA,qB,qC,List.set_nil] at hk
      go_simp
      exact hk
     ·obtain rfl:=HF.out.got (HD.out 7 (by decide)) (i:=7) rfl rfl
      obtain ⟨hr2,hr3⟩:=hI.2.2.2.2.2.2.2.2.2.1 (HD.out 7 (by decide))
      have hn:=HN.out
      have hz:S 12 = false:=by cases h:S 12;rfl;exact absurd (hI.2.2.2.2.2.2.2.2.2.2.2.2 h) (by rw [hn];decide)
      have hst:Strs wq (.slice ha P.hint.length hc) P.hint:=Strs.ext HHT.out hI.1
      go_simp
      refine (collect_any (hv A) m (.slice va V.length vc) V P.hint _ _ q2 q3 wq hr2 hr3 hst hI.2.2.2.1 HDI.out HHI.out.1 HHI.out.2).mono ?_
      rintro e w2 ⟨u,rfl,hu,hx2⟩
      rw [List.length_map] at hu
      have hgr:=hI.2.2.2.2.2.2.1.ext hx2
      rw [hz] at hgr
      simp only [Bool.false_eq_true,if_false] at hgr
      have hk:=HK.out _ w2 p2 p3 s1 q2 q3 u (HF.out.new (i:=8) u HN.out (by show 8 < 12;decide)) ⟨hI.1.trans hx2,hI.2.1.ext hx2,hI.2.2.1.ext hx2,hI.2.2.2.1.ext hx2,own_ext hI.2.2.2.2.1 hx2,hI.2.2.2.2.2.1.ext hx2,(by rw [show updB S 8 10 = S 10 from rfl,show updB S 8 12 = S 12 from rfl,hz];simp only [Bool.false_eq_true,if_false];exact hgr),fun h=>⟨(hI.2.2.2.2.2.2.2.1 h).1.ext hx2,(hI.2.2.2.2.2.2.2.1 h).2.ext hx2⟩,fun h=>own_ext (hI.2.2.2.2.2.2.2.2.1 h) hx2,fun h=>⟨(hI.2.2.2.2.2.2.2.2.2.1 h).1.ext hx2,(hI.2.2.2.2.2.2.2.2.2.1 h).2.ext hx2⟩,fun _=>own_base hu hI.1.size,hI.2.2.2.2.2.2.2.2.2.2.2.1,fun _=>rfl⟩
      simp only [puts,Act.put,qA,qB,qC,List.set_nil] at hk
      go_simp
      exact hk
     ·have hk:=HK.out _ wq p2 p3 s1 q2 q3 s2 (HF.out.put (i:=9) (v:=.pointer (some ⟨bg,2,none⟩)) rfl) hI
      simp only [puts,Act.put,qA,qB,qC,List.set_nil] at hk
      go_simp
      exact hk
     ·obtain rfl:=HF.out.got (HD.out 3 (by decide)) (i:=3) rfl rfl
      obtain rfl:=HF.out.got (HD.out 9 (by decide)) (i:=9) rfl rfl
      have ho:=hI.2.2.2.2.2.2.2.2.1 (HD.out 3 (by decide))
      obtain ⟨b1,b2,rfl⟩:=own_vw ho
      have hrow:=hI.2.2.2.2.2.2.1
      have cc:=hrow.cell (i:=2) rfl
      have ff:=hrow.frozen 2
      have hgs:=grown_set wq bg 2 (.slice b1 T.length b2)
      have hk:=HK.out _ _ p2 p3 (.slice b1 T.length b2) q2 q3 s2 (HF.out.put (i:=10) (v:=undef) rfl) ⟨Ext.set_of hI.1 (by have:=HY.out;have:=HBG.out;omega) _,hI.2.1.kept hgs (fun e=>row_ne hrow (hI.2.1) (by decide) (Option.some.inj e)),hI.2.2.1.kept hgs (fun e=>row_ne hrow (hI.2.2.1) (by decide) (Option.some.inj e)),hI.2.2.2.1.kept hgs (fun e=>hI.2.2.2.1.ne hrow (Option.some.inj e).symm),own_turn hI.2.2.2.2.1 hrow (by decide) hgs,hI.2.2.2.2.2.1.kept hgs (fun e=>by have:=Option.some.inj e;have:=HBG.out;omega),(by rw [show updB S 10 10 = true from rfl,show updB S 10 12 = S 12 from rfl,if_pos rfl];exact hrow.set 2 _),fun h=>⟨(hI.2.2.2.2.2.2.2.1 h).1.kept hgs (fun e=>row_ne hrow (hI.2.2.2.2.2.2.2.1 h).1 (by decide) (Option.some.inj e)),(hI.2.2.2.2.2.2.2.1 h).2.kept hgs (fun e=>row_ne hrow (hI.2.2.2.2.2.2.2.1 h).2 (by decide) (Option.some.inj e))⟩,fun h=>own_turn (hI.2.2.2.2.2.2.2.2.1 h) hrow (by decide) hgs,fun h=>⟨(hI.2.2.2.2.2.2.2.2.2.1 h).1.kept hgs (fun e=>row_ne hrow (hI.2.2.2.2.2.2.2.2.2.1 h).1 (by decide) (Option.some.inj e)),(hI.2.2.2.2.2.2.2.2.2.1 h).2.kept hgs (fun e=>row_ne hrow (hI.2.2.2.2.2.2.2.2.2.1 h).2 (by decide) (Option.some.inj e))⟩,fun h=>own_turn (hI.2.2.2.2.2.2.2.2.2.2.1 h) hrow (by decide) hgs,fun _=>HD.out 3 (by decide),hI.2.2.2.2.2.2.2.2.2.2.2.2⟩
      simp only [puts,Act.put,qA,qB,qC,List.set_nil] at hk
      go_simp
      exact hk
     ·have hk:=HK.out _ wq p2 p3 s1 q2 q3 s2 (HF.out.put (i:=11) (v:=.pointer (some ⟨bg,8,none⟩)) rfl) hI
      simp only [puts,Act.put,qA,qB,qC,List.set_nil] at hk
      go_simp
      exact hk
     ·obtain rfl:=HF.out.got (HD.out 8 (by decide)) (i:=8) rfl rfl
      obtain rfl:=HF.out.got (HD.out 11 (by decide)) (i:=11) rfl rfl
      have ho:=hI.2.2.2.2.2.2.2.2.2.2.1 (HD.out 8 (by decide))
      obtain ⟨b1,b2,rfl⟩:=own_vw ho
      have hrow:=hI.2.2.2.2.2.2.1
      have cc:=hrow.cell (i:=8) rfl
      have ff:=hrow.frozen 8
      have hgs:=grown_set wq bg 8 (.slice b1 P.hint.length b2)
      have hk:=HK.out _ _ p2 p3 s1 q2 q3 (.slice b1 P.hint.length b2) (HF.out.out (by show 12 ≤ 12;decide)) ⟨Ext.set_of hI.1 (by have:=HY.out;have:=HBG.out;omega) _,hI.2.1.kept hgs (fun e=>row_ne hrow (hI.2.1) (by decide) (Option.some.inj e)),hI.2.2.1.kept hgs (fun e=>row_ne hrow (hI.2.2.1) (by decide) (Option.some.inj e)),hI.2.2.2.1.kept hgs (fun e=>hI.2.2.2.1.ne hrow (Option.some.inj e).symm),own_turn hI.2.2.2.2.1 hrow (by decide) hgs,hI.2.2.2.2.2.1.kept hgs (fun e=>by have:=Option.some.inj e;have:=HBG.out;omega),(by rw [show updB S 12 10 = S 10 from rfl,show updB S 12 12 = true from rfl,if_pos rfl];exact hrow.set 8 _),fun h=>⟨(hI.2.2.2.2.2.2.2.1 h).1.kept hgs (fun e=>row_ne hrow (hI.2.2.2.2.2.2.2.1 h).1 (by decide) (Option.some.inj e)),(hI.2.2.2.2.2.2.2.1 h).2.kept hgs (fun e=>row_ne hrow (hI.2.2.2.2.2.2.2.1 h).2 (by decide) (Option.some.inj e))⟩,fun h=>own_turn (hI.2.2.2.2.2.2.2.2.1 h) hrow (by decide) hgs,fun h=>⟨(hI.2.2.2.2.2.2.2.2.2.1 h).1.kept hgs (fun e=>row_ne hrow (hI.2.2.2.2.2.2.2.2.2.1 h).1 (by decide) (Option.some.inj e)),(hI.2.2.2.2.2.2.2.2.2.1 h).2.kept hgs (fun e=>row_ne hrow (hI.2.2.2.2.2.2.2.2.2.1 h).2 (by decide) (Option.some.inj e))⟩,fun h=>own_turn (hI.2.2.2.2.2.2.2.2.2.2.1 h) hrow (by decide) hgs,hI.2.2.2.2.2.2.2.2.2.2.2.1,fun _=>HD.out 8 (by decide)⟩
      simp only [puts,Act.put,qA,qB,qC,List.set_nil] at hk
      go_simp
      exact hk
    ·rintro S us wq hS ⟨p2,p3,s1,q2,q3,s2,hF,hI⟩
     obtain ⟨u0,u1,u2,u3,u4,u5,u6,u7,u8,u9,u10,u11,rfl⟩:=len12 hF.len rfl
     obtain rfl:=hF.got (hS 0 (by decide)) (i:=0) rfl rfl
     obtain rfl:=hF.got (hS 1 (by decide)) (i:=1) rfl rfl
     obtain rfl:=hF.got (hS 2 (by decide)) (i:=2) rfl rfl
     obtain rfl:=hF.got (hS 3 (by decide)) (i:=3) rfl rfl
     obtain rfl:=hF.got (hS 4 (by decide)) (i:=4) rfl rfl
     obtain rfl:=hF.got (hS 5 (by decide)) (i:=5) rfl rfl
     obtain rfl:=hF.got (hS 6 (by decide)) (i:=6) rfl rfl
     obtain rfl:=hF.got (hS 7 (by decide)) (i:=7) rfl rfl
     obtain rfl:=hF.got (hS 8 (by decide)) (i:=8) rfl rfl
     obtain rfl:=hF.got (hS 9 (by decide)) (i:=9) rfl rfl
     obtain rfl:=hF.got (hS 10 (by decide)) (i:=10) rfl rfl
     obtain rfl:=hF.got (hS 11 (by decide)) (i:=11) rfl rfl
     have HS:=hid hS
     clear hF hS
     simp only [puts,Act.put,qA,qB,qC,List.set_nil]
     obtain ⟨hX,h1,hn,hm,hu,h2,hg,hj1,ho1,hj2,ho2,hj3,hj4⟩:=hI
     clear hj1 hj2 hj3 hj4
     obtain ⟨sa,sc,rfl⟩:=own_vw (ho1 (HS.out 3 (by decide)))
     obtain ⟨sb,sd,rfl⟩:=own_vw (ho2 (HS.out 8 (by decide)))
     rw [HS.out 10 (by decide),HS.out 12 (by decide),if_pos rfl,if_pos rfl] at hg
     have HX8:=hid hX
     replace G1:=hid h1
     have HN8:=hid hn
     have HM8:=hid hm
     replace HU:=hid hu
     replace G2:=hid h2
     have HG8:=hid hg
     have HO1:=hid (ho1 (HS.out 3 (by decide)))
     have HO2:=hid (ho2 (HS.out 8 (by decide)))
     have HOG:=hid (fun h=>own_ne_row hu hg (by decide) bg h rfl)
     have HOG1:=hid (fun h=>own_ne_row (ho1 (HS.out 3 (by decide))) hg (by decide) bg h rfl)
     have HOG2:=hid (fun h=>own_ne_row (ho2 (HS.out 8 (by decide))) hg (by decide) bg h rfl)
     clear hX h1 hn hm hu h2 hg ho1 ho2 HS HX7 HN7 HM7 HRbg
     go_upto_region 14 with fail
     have hlo:w.heap.size ≤ bg:=by have:=HBG.out;have:=HY.out;omega
     have hxa:=Ext.alloc wq (.cells #[.bool false] 4)
     have hra:RowAt (wq.alloc (.cells #[.bool false] 4)) wq.heap.size 4 [.bool false]:=RowAt.new _ _ _
     have hblt:bg < wq.heap.size:=HG8.out.lt
     have hq:=of1_any (w:=w) (w1:=wq.alloc (.cells #[.bool false] 4)) (hv A) m (.slice va V.length vc) D V P (.slice pa P.atoms.length pc) (.slice ra P.ret.length rc) (.slice ha P.hint.length hc) (.slice va V.length vc) (.slice sa T.length sc) (.slice sb P.hint.length sd) y1 bg gn (HX8.out.trans hxa) HV.out HS.out HOK.out (HM8.out.ext hxa) HDI.out (G1.out.ext hxa) HA.out (HG8.out.ext hxa) (HN8.out.ext hxa) hlo HWK.out (by have:=HPT.out.1;omega)
     have hFl:=preF_len (bndF D V) P.atoms
     obtain ⟨F,hF⟩:∃ F,bndsF D V P.atoms = F:=⟨_,rfl⟩
     rw [show preF (bndF D V) P.atoms = F from hF] at hFl
     rw [hF] at hq
     have HTR:=hid (triesOf_any #[.pointer (some ⟨y1,0,none⟩),.pointer (some ⟨bg,0,none⟩),.pointer (some ⟨gn,0,none⟩)] wq (fun w2=>F.2 = true ∧ GoalB wq w2 bg (.slice va V.length vc) (.slice sa T.length sc) (.slice sb P.hint.length sd) P F.1) (fun w2=>F.2 = false ∧ GoalB wq w2 bg (.slice va V.length vc) (.slice sa T.length sc) (.slice sb P.hint.length sd) P F.1) (hq.mono fun e w2 ⟨av',he,hr,ho,hg⟩=>⟨hg.row hra (by simp;omega),by
      have hgb:GoalB wq w2 bg (.slice va V.length vc) (.slice sa T.length sc) (.slice sb P.hint.length sd) P F.1:=⟨av',hr,own_base ho hxa.size,(Grows.ext hxa).trans hg⟩
      cases h2:F.2 with
      | true=>rw [h2,if_pos rfl] at he;exact .inl ⟨he,rfl,hgb⟩
      | false=>rw [h2,if_neg (by decide)] at he;exact .inr ⟨he,rfl,hgb⟩⟩))
     have HFE:=hid hF
     have HFL:=hid hFl
     have HLT:=hid hblt
     have HLO:=hid hlo
     clear hxa hra hq hF hFl hblt hlo HM8 HN8 HG8
     go_wp2_with fail
     refine HTR.out.mono ?_
     rintro e w9 ⟨w2,hA2,⟨rfl,⟨hF2,hgb⟩,hw9⟩ | ⟨rfl,⟨hF2,hgb⟩,hw9⟩⟩
     ·obtain ⟨hg9,av9,hr9,ho9⟩:=tries_after hgb hA2 HLT.out (.inl hw9)
      have HF2:=hid hF2
      clear hw9 hA2 hgb hF2 HTR
      have hy2:y2 ∉ [bg]:=by have:=HBG.out;simp;omega
      have HX9:=hid (hg9.over HX8.out (by have:=HLO.out;simpa using this))
      have HY2:=hid (hg9.row G2.out hy2)
      have HV9:=hid (show w9.ownsRow w.heap.size 9 1 (.slice va V.length vc) V.length (V.map Value.string) from own_grows HU.out hg9 (fun b hb hm=>by have:=List.mem_singleton.1 hm;subst this;exact HOG.out hb))
      have HO19:=hid (own_grows HO1.out hg9 (fun b hb hm=>by have:=List.mem_singleton.1 hm;subst this;exact HOG1.out hb))
      have HO29:=hid (own_grows HO2.out hg9 (fun b hb hm=>by have:=List.mem_singleton.1 hm;subst this;exact HOG2.out hb))
      have HR9:=hid hr9
      have HA9:=hid (own_base ho9 HX8.out.size)
      clear hg9 hr9 ho9 hy2 HX8 G1 G2 HU HO1 HO2
      obtain ⟨a9,c9,rfl⟩:=own_vw HA9.out
      have HFN:=hid (HFL.out.2 HF2.out)
      go_upto_region 16 with fail
      refine wp_region_grox [y2] groO16 [0,1,2,3,4,5,6] hmo (by kernel_rfl) rfl (by kernel_rfl) (fun _ _ _ _ _ h=>h) ?_
      have hxd:Ext w9 w9.drew:=Ext.drewN w9 1
      have HX4:=hid (HX9.out.trans hxd)
      have HY4:=hid (HY2.out.ext hxd)
      have HR4:=hid (HR9.out.ext hxd)
      have HV4:=hid (own_ext HV9.out hxd)
      have HA4:=hid (own_ext HA9.out hxd)
      have HP4:=hid (own_ext HO19.out hxd)
      have HQ4:=hid (own_ext HO29.out hxd)
      clear hxd HX9 HY2 HR9 HV9 HA9 HO19 HO29
      generalize w9.drew = w4' at *
      have c1:=HR4.out.cell (i:=1) rfl
      have hGA:¬ bg ∈ [y2]:=by have:=HBG.out;simp;omega
      have hGA2:¬ bg = y2:=by have:=HBG.out;omega
      refine groX_load rfl rfl rfl _ _ rfl bg 0 rfl (golL (.slice va V.length vc) (.slice a9 F.1.length c9) (.slice sa T.length sc) (.slice sb P.hint.length sd) P) _ HR4.out.whole hGA Tryz.underlying39 rfl (by kernel_rfl) ?_
      repeat (first
       | (refine groX_pure rfl rfl ?_;intro K hK;go_simp;refine hK _ ?_;clear hK K)
       | (refine groX_read rfl rfl ?_;intro K S hS hK;go_simp;refine hK _ ?_;clear hK K hS S)
       | (refine groX_read rfl rfl ?_;intro K S hS hK;go_simp;refine ⟨hS _ ?_,hK _ ?_⟩;(clear hK K hS S;intro w' hx';have hce:=grows_some hx';go_simp);clear hK K hS S))
      refine groX_store rfl rfl rfl _ _ _ rfl y2 (golL (.slice va V.length vc) (.slice a9 F.1.length c9) (.slice sa T.length sc) (.slice sb P.hint.length sd) P) rfl rfl HY4.out (by simp) (by kernel_rfl) rfl (by simp [golL,Value.oneCell']) ?_
      have HZ5:=hid (HY4.out.setRow (golL (.slice va V.length vc) (.slice a9 F.1.length c9) (.slice sa T.length sc) (.slice sb P.hint.length sd) P))
      have HX5:=hid (show Ext w (w4'.setRow y2 (golL (.slice va V.length vc) (.slice a9 F.1.length c9) (.slice sa T.length sc) (.slice sb P.hint.length sd) P).toArray) from below_setRow HX4.out HY.out.2.2 _)
      have hgw:=setRow_grown w4' y2 (golL (.slice va V.length vc) (.slice a9 F.1.length c9) (.slice sa T.length sc) (.slice sb P.hint.length sd) P).toArray
      have HV5:=hid (own_turn HV4.out HY4.out (by decide) hgw)
      have HA5:=hid (own_turn HA4.out HY4.out (by decide) hgw)
      have HP5:=hid (own_turn HP4.out HY4.out (by decide) hgw)
      have HQ5:=hid (own_turn HQ4.out HY4.out (by decide) hgw)
      clear c1 hgw HX4 HY4 HR4 HV4 HA4 HP4 HQ4
      generalize w4'.setRow y2 (golL (.slice va V.length vc) (.slice a9 F.1.length c9) (.slice sa T.length sc) (.slice sb P.hint.length sd) P).toArray = w5' at *
      repeat (first
       | (refine groX_pure rfl rfl ?_;intro K hK;go_simp;refine hK _ ?_;clear hK K)
       | (refine groX_read rfl rfl ?_;intro K S hS hK;go_simp;refine hK _ ?_;clear hK K hS S)
       | (refine groX_read rfl rfl ?_;intro K S hS hK;go_simp;refine ⟨hS _ ?_,hK _ ?_⟩;(clear hK K hS S;intro w' hx';have hce:=grows_some hx';go_simp);clear hK K hS S))
      refine groX_nil ?_
      go_wp2_with fail
      refine bodyPost_ret (results_row2 rfl rfl HZ5.out Tryz.underlying39 rfl (by kernel_rfl)) rfl ⟨_,golOf P F.1,P.atoms.length,0,by rw [← HFN.out];rfl,?_,⟨_,_,_,_,rfl,?_,?_,?_,?_⟩,HX5.out⟩
      ·have:=OfR.ok HOK.out HB.out (by rw [HVE.out,HFE.out];exact HF2.out)
       rwa [HVE.out,HFE.out] at this
      ·show World.ownsRow _ _ _ _ _ (varsS P.atoms).length ((varsS P.atoms).map Value.string)
       rw [HVE.out];exact HV5.out
      ·exact HA5.out
      ·show World.ownsRow _ _ _ _ _ (((if P.ret = [] then varsS P.atoms else P.ret).map (findF (varsS P.atoms))).length) _
       rw [List.length_map,HVE.out,HTE.out]
       show World.ownsRow _ _ _ _ _ _ (((if P.ret = [] then varsS P.atoms else P.ret).map (findF (varsS P.atoms))).map (Value.int .i64))
       rw [HVE.out,HTE.out];exact HP5.out
      ·show World.ownsRow _ _ _ _ _ ((P.hint.map (findF (varsS P.atoms))).length) ((P.hint.map (findF (varsS P.atoms))).map (Value.int .i64))
       rw [List.length_map,HVE.out];exact HQ5.out
     ·obtain ⟨hg9,av9,hr9,ho9⟩:=tries_after hgb hA2 HLT.out (.inr ⟨_,_,hw9⟩)
      have HF2:=hid hF2
      clear hw9 hA2 hgb hF2 HTR
      have hy2:y2 ∉ [bg]:=by have:=HBG.out;simp;omega
      have HX9:=hid (hg9.over HX8.out (by have:=HLO.out;simpa using this))
      have HY2:=hid (hg9.row G2.out hy2)
      have HR9:=hid hr9
      obtain ⟨a9,c9,rfl⟩:=own_vw ho9
      clear hg9 hr9 ho9 hy2 HX8 G1 G2 HU HO1 HO2
      have hF40:F.1.length ≤ 40:=by have:=HFL.out.1;have:=HPT.out.1.2;omega
      have HF40:=hid hF40
      clear hF40
      go_upto_region 15 with fail
      refine wp_region_grox [y2] groO15 [0,1,2,3,4,5,6,7] hmo (by kernel_rfl) rfl (by kernel_rfl) (fun _ _ _ _ _ h=>h) ?_
      have hxd:Ext w9 w9.drew:=Ext.drewN w9 1
      have HX4:=hid (HX9.out.trans hxd)
      have HY4:=hid (HY2.out.ext hxd)
      have HR4:=hid (HR9.out.ext hxd)
      clear hxd HX9 HY2 HR9
      generalize w9.drew = w4' at *
      have c1:=HR4.out.cell (i:=1) rfl
      have hGA:¬ bg ∈ [y2]:=by have:=HBG.out;simp;omega
      have hGA2:¬ bg = y2:=by have:=HBG.out;omega
      obtain ⟨n1,hn1⟩:∃ n,F.1.length = n:=⟨_,rfl⟩
      rw [hn1] at c1 HF40
      have HN1:=hid hn1
      clear hn1
      have hw:IntKind.i64.wrap ((n1:Int) + 1) = (n1:Int) + 1:=IntWalk.i64_in _ (by have:=HF40.out;omega)
      repeat (first
       | (refine groX_pure rfl rfl ?_;intro K hK;go_simp;refine hK _ ?_;clear hK K)
       | (refine groX_read rfl rfl ?_;intro K S hS hK;go_simp;refine hK _ ?_;clear hK K hS S)
       | (refine groX_read rfl rfl ?_;intro K S hS hK;go_simp;refine ⟨hS _ ?_,hK _ ?_⟩;(clear hK K hS S;intro w' hx';have hce:=grows_some hx';go_simp);clear hK K hS S))
      refine groX_store rfl rfl rfl _ _ _ rfl y2 [.slice none 0 0,.slice none 0 0,.slice none 0 0,.bool false,.bool false,.bool false,.int .i64 0,.int .i64 0,.slice none 0 0] rfl rfl HY4.out (by simp) (by kernel_rfl) rfl (by simp [Value.oneCell']) ?_
      have HZ5:=hid (HY4.out.setRow [.slice none 0 0,.slice none 0 0,.slice none 0 0,.bool false,.bool false,.bool false,.int .i64 0,.int .i64 0,.slice none 0 0])
      have HX5:=hid (show Ext w (w4'.setRow y2 #[.slice none 0 0,.slice none 0 0,.slice none 0 0,.bool false,.bool false,.bool false,.int .i64 0,.int .i64 0,.slice none 0 0]) from below_setRow HX4.out HY.out.2.2 _)
      clear c1 HX4 HY4 HR4
      generalize w4'.setRow y2 #[.slice none 0 0,.slice none 0 0,.slice none 0 0,.bool false,.bool false,.bool false,.int .i64 0,.int .i64 0,.slice none 0 0] = w5' at *
      repeat (first
       | (refine groX_pure rfl rfl ?_;intro K hK;go_simp;refine hK _ ?_;clear hK K)
       | (refine groX_read rfl rfl ?_;intro K S hS hK;go_simp;refine hK _ ?_;clear hK K hS S)
       | (refine groX_read rfl rfl ?_;intro K S hS hK;go_simp;refine ⟨hS _ ?_,hK _ ?_⟩;(clear hK K hS S;intro w' hx';have hce:=grows_some hx';go_simp);clear hK K hS S))
      refine groX_nil ?_
      go_wp2_with fail
      refine bodyPost_ret (results_row2 rfl rfl HZ5.out Tryz.underlying39 rfl (by kernel_rfl)) rfl ⟨_,zGol,(F.1.length:Int) + 1,280,by rw [HN1.out];rfl,?_,zGol_in _ _,HX5.out⟩
      have:=OfR.unk HOK.out HB.out (by rw [HVE.out,HFE.out];exact HF2.out)
      rwa [HVE.out,HFE.out] at this
end

end Go.Proofs.YtkmbnghghbfkdaaGreat
