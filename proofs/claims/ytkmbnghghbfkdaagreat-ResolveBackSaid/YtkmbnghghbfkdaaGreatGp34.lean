/- The pattern of which something is the goal. -/
import Derived.Test.YtkmbnghghbfkdaaGreatGp33
set_option linter.unusedSimpArgs false
set_option linter.unusedVariables false
set_option maxHeartbeats 2000000
set_option maxRecDepth 100000
namespace Go.Proofs.YtkmbnghghbfkdaaGreat
open Go.Lib (hid)

section
open Go.RowKit Go.Shelf Go.Sort
attribute [local go_sem] Oper.semAt_some wide_fn wide_depth
def PatOwn (B:Nat) (W:World) (v:Value) (P:Pat):Prop:=∃ av rv hv,v = patV av rv hv P ∧ W.ownsRow B 88 7 av P.atoms.length (P.atoms.flatMap atCells) ∧ W.ownsRow B 9 1 rv P.ret.length (P.ret.map Value.string) ∧ W.ownsRow B 9 1 hv P.hint.length (P.hint.map Value.string)
theorem noPat_own (B:Nat) (W:World):PatOwn B W (.agg #[.slice none 0 0,.slice none 0 0,.bool false,.bool false,.bool false,.int .i64 0,.int .i64 0,.slice none 0 0]) noPat:=⟨.slice none 0 0,.slice none 0 0,.slice none 0 0,rfl,World.ownsRow_nil _ _ _ _,World.ownsRow_nil _ _ _ _,World.ownsRow_nil _ _ _ _⟩
inductive BackR (D:Dic) (G:Gol):Pat → Int → Prop
 | dict (h:¬ DicOK D):BackR D G noPat 160
 | goal (h:DicOK D) (hb:backF D G = none):BackR D G noPat 281
 | ok (h:DicOK D) {P:Pat} (hb:backF D G = some P):BackR D G P 0
def BackQ (w:World) (D:Dic) (G:Gol) (e:Ending) (w':World):Prop:=∃ pv P c,e = .returned (.tuple #[pv,.int .i64 c]) ∧ BackR D G P c ∧ PatOwn w.heap.size w' pv P ∧ Ext w w'
structure Gol.Fits (G:Gol):Prop where
 few:G.atoms.length ≤ 100000 ∧ G.ret.length ≤ 1000000 ∧ G.hint.length ≤ 1000000 ∧ G.vars.length ≤ 1000000
 vars:∀ s ∈ G.vars,s.size ≤ 9223372036854775800
def golP (G:Gol):Pat:=⟨[],[],G.count,G.distinct,G.limited,G.limit,G.offset,[]⟩
theorem OfR.goal {D:Dic} {P:Pat} {G':Gol} {n c:Int} (h:OfR D P G' n c) (hok:DicOK D) (G:Gol):(c = 0 ∧ G' = G) ↔ (P.okB = true ∧ goalF D P = some G):=by
 cases h with
 | dict h=>exact absurd hok h
 | pat h h'=>exact ⟨fun h=>by omega,fun h=>by rw [h'] at h;cases h.1⟩
 | unk h h' hg=>exact ⟨fun h=>by omega,fun h=>by unfold goalF at h;rw [hg] at h;simp at h⟩
 | ok h h' hg =>
  unfold goalF
  rw [if_pos hg]
  exact ⟨fun h=>⟨h',by rw [h.2]⟩,fun h=>⟨rfl,Option.some.inj h.2⟩⟩
theorem OfR.code {D:Dic} {P:Pat} {G':Gol} {n c:Int} (h:OfR D P G' n c):c = 0 ∨ c = 160 ∨ c = 261 ∨ c = 280:=by cases h <;> simp
theorem OfR.few {D:Dic} {P:Pat} {G':Gol} {n c:Int} (h:OfR D P G' n c) (hf:P.atoms.length ≤ 1000000000):G'.atoms.length ≤ 1000000000:=by
 cases h with
 | dict _=>exact Nat.zero_le _
 | pat _ _=>exact Nat.zero_le _
 | unk _ _ _=>exact Nat.zero_le _
 | ok _ _ _=>exact Nat.le_trans (preF_len _ _).1 hf
theorem backF_no {D:Dic} {G:Gol} (h:(atmsF D G.vars G.atoms).2 = false ∨ textsO G.vars G.ret = none ∨ textsO G.vars G.hint = none):backF D G = none:=by
 unfold backF
 split
 ·rename_i ha
  rcases h with h | h | h
  ·rw [h] at ha;cases ha
  ·rw [h]
  ·rw [h];cases textsO G.vars G.ret <;> rfl
 ·rfl
theorem backF_of {D:Dic} {G:Gol} {A:List Atm} {R H:List ByteArray} (ha:atmsF D G.vars G.atoms = (A,true)) (hr:textsO G.vars G.ret = some R) (hh:textsO G.vars G.hint = some H) :
 backF D G = if (patOf G A R H).okB = true ∧ goalF D (patOf G A R H) = some G then some (patOf G A R H) else none:=by
 unfold backF
 rw [ha,hr,hh]
 rfl
theorem back_after {D:Dic} {V:List ByteArray} {l:List Bnd} {wq w2 w9:World} {bg:Nat} {P0:Pat} {A:List Atm} {R H:List ByteArray} (o0:Obj) (h:BackRow D V l (wq.alloc o0) w2 bg P0 A R H) (hA:RowAt w2 wq.heap.size 4 [.bool false]) (hlt:bg < wq.heap.size)
 (h9:w9 = w2.setCell ⟨wq.heap.size,0,none⟩ (.bool true) ∨ ∃ o v,w9 = (w2.alloc o).setCell ⟨wq.heap.size,0,none⟩ v):BackRow D V l wq w9 bg P0 A R H:=by
 obtain ⟨⟨av,rv,hv,hr,h1,h2,h3⟩,hg,hm,hf⟩:=h
 have hxa:=Ext.alloc wq o0
 have key:∀ (w3:World) (v:Value),Ext w2 w3 → BackRow D V l wq (w3.setCell ⟨wq.heap.size,0,none⟩ v) bg P0 A R H:=by
  intro w3 v hx
  have hgs:=grown_set w3 wq.heap.size 0 v
  refine ⟨⟨av,rv,hv,(hr.ext hx).kept hgs (fun e=>by have:=Option.some.inj e;omega),own_turn (own_ext (own_base h1 hxa.size) hx) (hA.ext hx) (by decide) hgs,own_turn (own_ext (own_base h2 hxa.size) hx) (hA.ext hx) (by decide) hgs,own_turn (own_ext (own_base h3 hxa.size) hx) (hA.ext hx) (by decide) hgs⟩,?_,hm,hf⟩
  exact (((Grows.ext hxa).trans hg).trans (Grows.ext hx)).below (Below.setCell (p:=⟨wq.heap.size,0,none⟩) (Below.refl _ _) (Nat.le_refl _) _)
 rcases h9 with rfl | ⟨o,v,rfl⟩
 ·exact key w2 _ (Ext.refl _)
 ·exact key (w2.alloc o) v (Ext.alloc _ _)
set_option maxHeartbeats 8000000 in
theorem back_any (Hd:Heads) (D:Dic) (G:Gol) (gv:Value) (w:World) (hV:DicV w (hv Hd) D) (hS:DicS D) (hG:GolAt w gv G) (hf:G.Fits) :
 Calls Tryz.prog 21 #[dv (hv Hd),gv] w (BackQ w D G):=by
 have hmo:Tryz.prog.follows .mixedOrders = true:=by kernel_rfl
 obtain ⟨vv,av,rv,hv',rfl,gV,gA,gR,gH⟩:=hG
 obtain ⟨va,vc,rfl,_,_⟩:=Sl.shape gV
 obtain ⟨aa,ac,rfl,_,_⟩:=gA.shape
 obtain ⟨ra,rc,rfl,_,_⟩:=gR.shape
 obtain ⟨ha,hc,rfl,_,_⟩:=gH.shape
 have HDC:=hid (fun w' (hx:Ext w w')=>dcheck_any (hv Hd) D w' (hV.ext hx) hS)
 have HOF:=hid (fun w' (hx:Ext w w')=>of_any' Hd w' va vc G.vars (Strs.ext gV hx) hf.few.2.2.2)
 have HV:=hid hV
 have HS:=hid hS
 have HGV:=hid gV
 have HGA:=hid gA
 have HGR:=hid gR
 have HGH:=hid gH
 have HFT:=hid hf
 clear hV hS gV gA gR gH hf
 unfold dv at HDC HOF ⊢
 unfold golV
 have hbx:=boxes3 w (dcells (hv Hd)) 28 (golC (.slice va G.vars.length vc) (.slice aa G.atoms.length ac) (.slice ra G.ret.length rc) (.slice ha G.hint.length hc) G) 39 ([.slice none 0 0,.slice none 0 0,.bool false,.bool false,.bool false,.int .i64 0,.int .i64 0,.slice none 0 0]) 35
 have HBX:=hid hbx
 clear hbx
 go_enter Tryz.func21,Tryz.ntmps21
 go_upto_region 1 with fail
 generalize ((w.alloc (.cells (dcells (hv Hd)).toArray 28)).alloc (.cells (golC (.slice va G.vars.length vc) (.slice aa G.atoms.length ac) (.slice ra G.ret.length rc) (.slice ha G.hint.length hc) G).toArray 39)).alloc (.cells ([.slice none 0 0,.slice none 0 0,.bool false,.bool false,.bool false,.int .i64 0,.int .i64 0,.slice none 0 0]).toArray 35) = w1 at *
 obtain ⟨y0,hy0⟩:∃ x,w.heap.size = x:=⟨_,rfl⟩
 obtain ⟨y1,hy1⟩:∃ x,y0 + 1 = x:=⟨_,rfl⟩
 obtain ⟨y2,hy2⟩:∃ x,y1 + 1 = x:=⟨_,rfl⟩
 rw [hy0,hy1,hy2] at HBX
 simp only [hy0,hy1,hy2]
 have HN:=hid (show w.heap.size = y0 ∧ y0 + 1 = y1 ∧ y1 + 1 = y2 from ⟨hy0,hy1,hy2⟩)
 have HX:=hid HBX.out.1
 have H0:=hid HBX.out.2.1
 have H1:=hid HBX.out.2.2.1
 have H2:=hid HBX.out.2.2.2
 clear hy0 hy1 hy2 HBX
 have HY:=hid (show y0 ≠ y2 ∧ y1 ≠ y2 ∧ w.heap.size ≤ y2 by have:=HN.out;omega)
 clear HN
 apply wp_region_lit
 refine plain_load rfl _ _ rfl y0 rfl _ _ (H0.out) Tryz.underlying28 rfl (by kernel_rfl) ?_
 go_simp
 refine wpList_plain rfl fun K1 hK1=>?_
 go_simp
 refine (HDC.out w1 HX.out).mono ?_;rintro e w2 ⟨r,rfl,hr1,hr2,hx2⟩
 go_simp
 refine hK1 _ _ ?_
 clear hK1 K1
 (refine wpList_plain rfl fun Y y'=>?_;go_simp;refine y' _ _ ?_;clear y' Y)
 apply wpList_nil
 have HX2:=hid (HX.out.trans hx2)
 have G0:=hid (H0.out.ext hx2)
 have G1:=hid (H1.out.ext hx2)
 have G2:=hid (H2.out.ext hx2)
 have HR2:=hid hr2
 clear hx2 HX H0 H1 H2 HDC hr2
 rcases hr1 with rfl | rfl
 case inr =>
  have hno:¬ DicOK D:=fun h=>by have:=HR2.out.2 h;omega
  have HO:=hid hno
  clear hno
  go_upto_region 3 with fail
  apply wp_region_lit
  iterate 2 (refine wpList_plain rfl fun Y y'=>?_;go_simp;refine y' _ _ ?_;clear y' Y)
  refine plain_store rfl _ _ _ rfl y2 ([.slice none 0 0,.slice none 0 0,.bool false,.bool false,.bool false,.int .i64 0,.int .i64 0,.slice none 0 0]) rfl rfl (G2.out) (by kernel_rfl) rfl ((by simp [Value.oneCell'])) ?_
  have HRR:=hid ((G2.out).setRow ([.slice none 0 0,.slice none 0 0,.bool false,.bool false,.bool false,.int .i64 0,.int .i64 0,.slice none 0 0]))
  have HXX:=hid (show Ext w ((w2).setRow y2 ([.slice none 0 0,.slice none 0 0,.bool false,.bool false,.bool false,.int .i64 0,.int .i64 0,.slice none 0 0]).toArray) from below_setRow (HX2.out) (HY.out.2.2) _)
  go_simp
  generalize (w2).setRow y2 ([.slice none 0 0,.slice none 0 0,.bool false,.bool false,.bool false,.int .i64 0,.int .i64 0,.slice none 0 0]).toArray = wend at *
  (refine wpList_plain rfl fun Y y'=>?_;go_simp;refine y' _ _ ?_;clear y' Y)
  apply wpList_nil
  go_wp2_with fail
  exact bodyPost_ret (results_row1 rfl rfl HRR.out Tryz.underlying35 rfl (by kernel_rfl)) rfl (⟨_,noPat,160,rfl,.dict HO.out,noPat_own _ _,HXX.out⟩)
 case inl =>
  have HOK:=hid (HR2.out.1 rfl)
  clear HR2
  go_upto_region 4 with fail
  obtain ⟨k0,k1,k2,k3,k4,k5,k6,k7,k8⟩:=row9_facts (show RowAt w2 y1 39 [.slice va G.vars.length vc,.slice aa G.atoms.length ac,.slice ra G.ret.length rc,.bool G.count,.bool G.distinct,.bool G.limited,.int .i64 G.limit,.int .i64 G.offset,.slice ha G.hint.length hc] from G1.out)
  apply wp_region_lit
  refine plain_load rfl _ _ rfl y0 rfl _ _ (G0.out) Tryz.underlying28 rfl (by kernel_rfl) ?_
  go_simp
  iterate 2 (refine wpList_plain rfl fun Y y'=>?_;go_simp;refine y' _ _ ?_;clear y' Y)
  refine wpList_plain rfl fun K1 hK1=>?_
  go_simp
  refine (HOF.out w2 HX2.out).mono ?_;rintro e w3 ⟨m,rfl,hm,hx3⟩
  go_simp
  refine hK1 _ _ ?_
  clear hK1 K1
  clear k0 k1 k2 k3 k4 k5 k6 k7 k8
  have HM3:=hid hm
  have HX3:=hid (HX2.out.trans hx3)
  replace G0:=hid (G0.out.ext hx3)
  replace G1:=hid (G1.out.ext hx3)
  replace G2:=hid (G2.out.ext hx3)
  clear hx3 HX2 HOF hm
  have HL3:=hid (show y2 < w3.heap.size from G2.out.lt)
  unfold nmV
  (refine wpList_plain rfl fun Y y'=>?_;go_simp;refine y' _ _ ?_;clear y' Y)
  have hax:=Ext.alloc w3 (.cells #[.slice none 0 0,.slice none 0 0,.slice none 0 0,.slice none 0 0,.slice none 0 0,.slice none 0 0,.slice none 0 0,.slice none 0 0,.slice none 0 0,.slice none 0 0,.map none,.slice none 0 0] 98)
  have har:RowAt (w3.alloc (.cells #[.slice none 0 0,.slice none 0 0,.slice none 0 0,.slice none 0 0,.slice none 0 0,.slice none 0 0,.slice none 0 0,.slice none 0 0,.slice none 0 0,.slice none 0 0,.map none,.slice none 0 0] 98)) w3.heap.size 98 (#[.slice none 0 0,.slice none 0 0,.slice none 0 0,.slice none 0 0,.slice none 0 0,.slice none 0 0,.slice none 0 0,.slice none 0 0,.slice none 0 0,.slice none 0 0,.map none,.slice none 0 0]).toList:=RowAt.new _ _ _
  refine plain_store rfl _ _ _ rfl w3.heap.size (nmL (hv Hd) m (.slice va G.vars.length vc)) rfl rfl har (by kernel_rfl) rfl ((nm_one Hd m va G.vars.length vc)) ?_
  have hex:Ext w3 ((w3.alloc (.cells #[.slice none 0 0,.slice none 0 0,.slice none 0 0,.slice none 0 0,.slice none 0 0,.slice none 0 0,.slice none 0 0,.slice none 0 0,.slice none 0 0,.slice none 0 0,.map none,.slice none 0 0] 98)).setRow w3.heap.size (nmL (hv Hd) m (.slice va G.vars.length vc)).toArray):=below_setRow hax (Nat.le_refl _) _
  have HEw4:=hid hex
  have HRgn:=hid (har.setRow (nmL (hv Hd) m (.slice va G.vars.length vc)))
  clear hax har hex
  go_simp
  generalize (w3.alloc (.cells #[.slice none 0 0,.slice none 0 0,.slice none 0 0,.slice none 0 0,.slice none 0 0,.slice none 0 0,.slice none 0 0,.slice none 0 0,.slice none 0 0,.slice none 0 0,.map none,.slice none 0 0] 98)).setRow w3.heap.size (nmL (hv Hd) m (.slice va G.vars.length vc)).toArray = w4 at *
  obtain ⟨gn,hsgn⟩:∃ x,w3.heap.size = x:=⟨_,rfl⟩
  rw [hsgn] at HRgn
  simp only [hsgn]
  have HSgn:=hid hsgn
  clear hsgn
  apply wpList_nil
  have HX4:=hid (HX3.out.trans HEw4.out)
  have HM4:=hid (HM3.out.ext HEw4.out)
  replace G0:=hid (G0.out.ext HEw4.out)
  replace G1:=hid (G1.out.ext HEw4.out)
  replace G2:=hid (G2.out.ext HEw4.out)
  have HGN:=hid (show y2 < gn by have:=HL3.out;have:=HSgn.out;omega)
  clear HEw4 HX3 HM3 HSgn HL3
  go_upto_region 5 with fail
  obtain ⟨k0,k1,k2,k3,k4,k5,k6,k7,k8⟩:=row9_facts (show RowAt w4 y1 39 [.slice va G.vars.length vc,.slice aa G.atoms.length ac,.slice ra G.ret.length rc,.bool G.count,.bool G.distinct,.bool G.limited,.int .i64 G.limit,.int .i64 G.offset,.slice ha G.hint.length hc] from G1.out)
  apply wp_region_lit
  iterate 11 (refine wpList_plain rfl fun Y y'=>?_;go_simp;refine y' _ _ ?_;clear y' Y)
  clear k0 k1 k2 k3 k4 k5 k6 k7 k8
  (refine wpList_plain rfl fun Y y'=>?_;go_simp;refine y' _ _ ?_;clear y' Y)
  have hax:=Ext.alloc w4 (.cells #[.slice none 0 0,.slice none 0 0,.bool false,.bool false,.bool false,.int .i64 0,.int .i64 0,.slice none 0 0] 35)
  have har:RowAt (w4.alloc (.cells #[.slice none 0 0,.slice none 0 0,.bool false,.bool false,.bool false,.int .i64 0,.int .i64 0,.slice none 0 0] 35)) w4.heap.size 35 (#[.slice none 0 0,.slice none 0 0,.bool false,.bool false,.bool false,.int .i64 0,.int .i64 0,.slice none 0 0]).toList:=RowAt.new _ _ _
  refine plain_store rfl _ _ _ rfl w4.heap.size (patL (.slice none 0 0) (.slice none 0 0) (.slice none 0 0) (golP G)) rfl rfl har (by kernel_rfl) rfl ((by simp [patL,Value.oneCell'])) ?_
  have hex:Ext w4 ((w4.alloc (.cells #[.slice none 0 0,.slice none 0 0,.bool false,.bool false,.bool false,.int .i64 0,.int .i64 0,.slice none 0 0] 35)).setRow w4.heap.size (patL (.slice none 0 0) (.slice none 0 0) (.slice none 0 0) (golP G)).toArray):=below_setRow hax (Nat.le_refl _) _
  have HEw5:=hid hex
  have HRbg:=hid (har.setRow (patL (.slice none 0 0) (.slice none 0 0) (.slice none 0 0) (golP G)))
  clear hax har hex
  go_simp
  generalize (w4.alloc (.cells #[.slice none 0 0,.slice none 0 0,.bool false,.bool false,.bool false,.int .i64 0,.int .i64 0,.slice none 0 0] 35)).setRow w4.heap.size (patL (.slice none 0 0) (.slice none 0 0) (.slice none 0 0) (golP G)).toArray = w5 at *
  obtain ⟨bg,hsbg⟩:∃ x,w4.heap.size = x:=⟨_,rfl⟩
  rw [hsbg] at HRbg
  simp only [hsbg]
  have HSbg:=hid hsbg
  clear hsbg
  apply wpList_nil
  have HX5:=hid (HX4.out.trans HEw5.out)
  have HN5:=hid (HRgn.out.ext HEw5.out)
  have HBG:=hid (show y2 < bg ∧ gn < bg by have:=HSbg.out;have:=(show RowAt w4 gn 98 (nmL (hv Hd) m (.slice va G.vars.length vc)) from HRgn.out).lt;have:=HGN.out;omega)
  replace G0:=hid (G0.out.ext HEw5.out)
  replace G1:=hid (G1.out.ext HEw5.out)
  replace G2:=hid (G2.out.ext HEw5.out)
  clear HEw5 HX4 HM4 HRgn HSbg
  go_upto_region 6 with fail
  have hlo:w.heap.size ≤ bg:=by have:=HBG.out;have:=HY.out;omega
  have hxa:=Ext.alloc w5 (.cells #[.bool false] 4)
  have hra:RowAt (w5.alloc (.cells #[.bool false] 4)) w5.heap.size 4 [.bool false]:=RowAt.new _ _ _
  have hblt:bg < w5.heap.size:=HRbg.out.lt
  have hq:=back1_any (w:=w) (w1:=w5.alloc (.cells #[.bool false] 4)) (hv Hd) m va vc D G (golP G) _ _ _ y1 bg gn (HX5.out.trans hxa) HV.out HS.out HOK.out (G1.out.ext hxa) HGV.out HGA.out HGR.out HGH.out (HRbg.out.ext hxa) (HN5.out.ext hxa) hlo HFT.out.few
  have HTR:=hid (triesBack_any #[.pointer (some ⟨y1,0,none⟩),.pointer (some ⟨bg,0,none⟩),.pointer (some ⟨gn,0,none⟩)] w5
   (fun w2=>∃ A R H,BackRow D G.vars G.atoms (w5.alloc (.cells #[.bool false] 4)) w2 bg (golP G) A R H ∧ atmsF D G.vars G.atoms = (A,true) ∧ textsO G.vars G.ret = some R ∧ textsO G.vars G.hint = some H)
   (fun w2=>∃ A R H,BackRow D G.vars G.atoms (w5.alloc (.cells #[.bool false] 4)) w2 bg (golP G) A R H ∧ ((atmsF D G.vars G.atoms).2 = false ∨ textsO G.vars G.ret = none ∨ textsO G.vars G.hint = none))
   (hq.mono fun e w2 ⟨A,R,H,hb,hc⟩=>⟨hb.grows.row hra (by simp;omega),by
    rcases hc with ⟨he,h1,h2,h3⟩ | ⟨he,h1⟩
    ·exact .inl ⟨he,A,R,H,hb,h1,h2,h3⟩
    ·exact .inr ⟨he,A,R,H,hb,h1⟩⟩))
  have HLT:=hid hblt
  have HLO:=hid hlo
  clear hxa hra hq hblt hlo
  go_wp2_with fail
  refine HTR.out.mono ?_
  rintro e w9 ⟨w2',hA2,hcase⟩
  obtain ⟨okb,A,R,H,rfl,hbr,hgood,hbad⟩:∃ okb A R H,e = .returned (.bool okb) ∧ BackRow D G.vars G.atoms w5 w9 bg (golP G) A R H ∧ (okb = true → atmsF D G.vars G.atoms = (A,true) ∧ textsO G.vars G.ret = some R ∧ textsO G.vars G.hint = some H) ∧ (okb = false → backF D G = none):=by
   rcases hcase with ⟨he,⟨A,R,H,hb,h1⟩,hw⟩ | ⟨he,⟨A,R,H,hb,h1⟩,hw⟩
   ·exact ⟨true,A,R,H,he,back_after _ hb hA2 HLT.out (.inl hw),fun _=>h1,fun h=>(by cases h)⟩
   ·exact ⟨false,A,R,H,he,back_after _ hb hA2 HLT.out (.inr ⟨_,_,hw⟩),fun h=>(by cases h),fun _=>backF_no h1⟩
  obtain ⟨⟨pav,prv,phv,hrow,ho1,ho2,ho3⟩,hgrw,hmem,hfew⟩:=hbr
  have hne2:y2 ∉ [bg]:=by have:=HBG.out;simp;omega
  have hnd:∀ z,y0 = z → z ∉ [bg]:=by rintro z rfl;have:=row_ne G0.out HRbg.out (by decide);simpa using this
  have hng:∀ z,y1 = z → z ∉ [bg]:=by rintro z rfl;have:=row_ne G1.out HRbg.out (by decide);simpa using this
  have HX9:=hid (hgrw.over HX5.out (by have:=HLO.out;simpa using this))
  have hsz:=HX5.out.size
  replace G0:=hid (hgrw.row G0.out (hnd _ rfl))
  replace G1:=hid (hgrw.row G1.out (hng _ rfl))
  replace G2:=hid (hgrw.row G2.out hne2)
  obtain ⟨paa,pac,rfl⟩:=own_vw ho1
  obtain ⟨pra,prc,rfl⟩:=own_vw ho2
  obtain ⟨pha,phc,rfl⟩:=own_vw ho3
  have HROW:=hid hrow
  have HO1:=hid (own_base ho1 hsz)
  have HO2:=hid (own_base ho2 hsz)
  have HO3:=hid (own_base ho3 hsz)
  have HGD:=hid hgood
  have HBD:=hid hbad
  have HMM:=hid hmem
  have HFW:=hid hfew
  clear hA2 hcase HTR hrow ho1 ho2 ho3 hgrw hmem hfew hgood hbad hne2 hnd hng hsz HX5 HN5 HRbg
  have HEQ:=hid (eqStrs_any _ _ R G.vars w9 (Sl.of_own HO2.out) (Strs.ext HGV.out HX9.out))
  have c1:=HROW.out.cell (i:=1) rfl
  have d0:=G1.out.cell (i:=0) rfl
  go_wp2_with fail
  refine HEQ.out.mono ?_
  rintro e w10 ⟨rfl,hx10⟩
  have HX10:=hid (HX9.out.trans hx10)
  replace G0:=hid (G0.out.ext hx10)
  replace G1:=hid (G1.out.ext hx10)
  replace G2:=hid (G2.out.ext hx10)
  replace HROW:=hid (HROW.out.ext hx10)
  replace HO1:=hid (own_ext HO1.out hx10)
  replace HO2:=hid (own_ext HO2.out hx10)
  replace HO3:=hid (own_ext HO3.out hx10)
  clear hx10 c1 d0 HX9 HEQ
  obtain ⟨eqb,heqb⟩:∃ b,decide (R = G.vars) = b:=⟨_,rfl⟩
  have HEB:=hid heqb
  rw [heqb]
  clear heqb
  go_upto_if 40 with fail
  obtain ⟨P,hP⟩:∃ P,patOf G A R H = P:=⟨_,rfl⟩
  have HPE:=hid hP
  have hPr:P.ret = if R = G.vars then [] else R:=by rw [← hP];rfl
  have HPR:=hid hPr
  have hlt2:w.heap.size ≤ bg:=HLO.out
  clear hP hPr
  go_cut [9] (fun s9 wx=>s9 = .bool okb ∧ Hid (∃ rv2,RowAt wx bg 35 (patL (.slice paa A.length pac) rv2 (.slice pha H.length phc) (golP G)) ∧ wx.ownsRow w.heap.size 88 7 (.slice paa A.length pac) A.length (A.flatMap atCells) ∧ wx.ownsRow w.heap.size 9 1 rv2 P.ret.length (P.ret.map Value.string) ∧ wx.ownsRow w.heap.size 9 1 (.slice pha H.length phc) H.length (H.map Value.string) ∧ Ext w wx ∧
   RowAt wx y0 28 (dcells (hv Hd)) ∧ RowAt wx y1 39 (golC (.slice va G.vars.length vc) (.slice aa G.atoms.length ac) (.slice ra G.ret.length rc) (.slice ha G.hint.length hc) G) ∧ RowAt wx y2 35 [.slice none 0 0,.slice none 0 0,.bool false,.bool false,.bool false,.int .i64 0,.int .i64 0,.slice none 0 0]))
  case first =>
   cases eqb
   case false =>
    have HRE:=hid (show P.ret = R by rw [HPR.out,if_neg (of_decide_eq_false HEB.out)])
    have HFIN:=hid (show ∃ rv2,RowAt w10 bg 35 (patL (.slice paa A.length pac) rv2 (.slice pha H.length phc) (golP G)) ∧ w10.ownsRow w.heap.size 88 7 (.slice paa A.length pac) A.length (A.flatMap atCells) ∧ w10.ownsRow w.heap.size 9 1 rv2 P.ret.length (P.ret.map Value.string) ∧ w10.ownsRow w.heap.size 9 1 (.slice pha H.length phc) H.length (H.map Value.string) ∧ Ext w w10 ∧
     RowAt w10 y0 28 (dcells (hv Hd)) ∧ RowAt w10 y1 39 (golC (.slice va G.vars.length vc) (.slice aa G.atoms.length ac) (.slice ra G.ret.length rc) (.slice ha G.hint.length hc) G) ∧ RowAt w10 y2 35 [.slice none 0 0,.slice none 0 0,.bool false,.bool false,.bool false,.int .i64 0,.int .i64 0,.slice none 0 0] from
     ⟨_,HROW.out,HO1.out,(by rw [HRE.out];exact HO2.out),HO3.out,HX10.out,G0.out,G1.out,G2.out⟩)
    clear HROW HO1 HO2 HO3 HX10 G0 G1 G2
    go_wp2_with fail
    go_meet
    exact ⟨rfl,HFIN⟩
   case true =>
    have HRE:=hid (show P.ret = [] by rw [HPR.out,if_pos (of_decide_eq_true HEB.out)])
    have hgs:=grown_set w10 bg 1 (.slice none 0 0)
    have cc:=HROW.out.cell (i:=1) rfl
    have ff:=HROW.out.frozen 1
    have HFIN:=hid (show ∃ rv2,RowAt (w10.setCell ⟨bg,1,none⟩ (.slice none 0 0)) bg 35 (patL (.slice paa A.length pac) rv2 (.slice pha H.length phc) (golP G)) ∧ (w10.setCell ⟨bg,1,none⟩ (.slice none 0 0)).ownsRow w.heap.size 88 7 (.slice paa A.length pac) A.length (A.flatMap atCells) ∧ (w10.setCell ⟨bg,1,none⟩ (.slice none 0 0)).ownsRow w.heap.size 9 1 rv2 P.ret.length (P.ret.map Value.string) ∧ (w10.setCell ⟨bg,1,none⟩ (.slice none 0 0)).ownsRow w.heap.size 9 1 (.slice pha H.length phc) H.length (H.map Value.string) ∧ Ext w (w10.setCell ⟨bg,1,none⟩ (.slice none 0 0)) ∧
     RowAt (w10.setCell ⟨bg,1,none⟩ (.slice none 0 0)) y0 28 (dcells (hv Hd)) ∧ RowAt (w10.setCell ⟨bg,1,none⟩ (.slice none 0 0)) y1 39 (golC (.slice va G.vars.length vc) (.slice aa G.atoms.length ac) (.slice ra G.ret.length rc) (.slice ha G.hint.length hc) G) ∧ RowAt (w10.setCell ⟨bg,1,none⟩ (.slice none 0 0)) y2 35 [.slice none 0 0,.slice none 0 0,.bool false,.bool false,.bool false,.int .i64 0,.int .i64 0,.slice none 0 0] from
     ⟨.slice none 0 0,HROW.out.set 1 _,own_turn HO1.out HROW.out (by decide) hgs,(by rw [HRE.out];exact World.ownsRow_nil _ _ _ _),own_turn HO3.out HROW.out (by decide) hgs,Ext.set_of HX10.out hlt2 _,
      G0.out.kept hgs (fun e=>row_ne HROW.out G0.out (by decide) (Option.some.inj e)),G1.out.kept hgs (fun e=>row_ne HROW.out G1.out (by decide) (Option.some.inj e)),G2.out.kept hgs (fun e=>by have:=Option.some.inj e;have:=HBG.out;omega)⟩)
    clear HROW HO1 HO2 HO3 HX10 G0 G1 G2 hgs
    go_wp2_with fail
    go_meet
    exact ⟨rfl,HFIN⟩
  case rest =>
   obtain ⟨rfl,hc9⟩:=hcut
   obtain ⟨rv2,hrow,ho1,ho2,ho3,hx,h0,h1,h2⟩:=hc9.out
   obtain ⟨pra2,prc2,rfl⟩:=own_vw ho2
   have hatoms:P.atoms = A:=by rw [← HPE.out];rfl
   have hhint:P.hint = H:=by rw [← HPE.out];rfl
   have hpl:patL (.slice paa A.length pac) (.slice pra2 P.ret.length prc2) (.slice pha H.length phc) (golP G) = patL (.slice paa P.atoms.length pac) (.slice pra2 P.ret.length prc2) (.slice pha P.hint.length phc) P:=by rw [← HPE.out];rfl
   rw [hpl] at hrow
   rw [← hatoms] at ho1
   rw [← hhint] at ho3
   have hpf:P.Fits:=⟨fun a ha=>by
    rw [hatoms] at ha
    obtain ⟨b,hb,he⟩:=HMM.out a ha
    exact atmF_fits HOK.out HFT.out.vars he,by rw [hatoms];have:=HFW.out;have:=HFT.out.few.1;omega⟩
   have HQ:=hid (goal_any Hd D P (.slice paa P.atoms.length pac) (.slice pra2 P.ret.length prc2) (.slice pha P.hint.length phc) wc (HV.out.ext hx) HS.out (Sl.of_own ho1) (Sl.of_own ho2) (Sl.of_own ho3) hpf)
   have HROW:=hid hrow
   have HO1:=hid ho1
   have HO2:=hid ho2
   have HO3:=hid ho3
   have HX:=hid hx
   have G0:=hid h0
   have G1:=hid h1
   have G2:=hid h2
   have HPF:=hid hpf.few
   have HAT:=hid hatoms
   have HHT:=hid hhint
   clear hc9 hrow ho1 ho2 ho3 hx h0 h1 h2 hatoms hhint hpl hpf
   unfold dv patV at HQ
   go_upto_region 9 with fail
   apply wp_region_lit
   refine plain_load rfl _ _ rfl y0 rfl _ _ (G0.out) Tryz.underlying28 rfl (by kernel_rfl) ?_
   go_simp
   refine plain_load rfl _ _ rfl bg rfl _ _ (HROW.out) Tryz.underlying35 rfl (by kernel_rfl) ?_
   go_simp
   refine wpList_plain rfl fun K1 hK1=>?_
   go_simp
   refine HQ.out.mono ?_;rintro e w11 ⟨gv2,G2',n2,c2,rfl,hof,hgi,hx11⟩
   go_simp
   refine hK1 _ _ ?_
   clear hK1 K1
   obtain ⟨vv2,av2,rr2,hh2,rfl,q1,q2,q3,q4⟩:=id hgi
   have hga:=hgi.at_
   obtain ⟨va2,vc2,rfl⟩:=own_vw q1
   obtain ⟨aa2,ac2,rfl⟩:=own_vw q2
   obtain ⟨ra2,rc2,rfl⟩:=own_vw q3
   obtain ⟨ha2,hc2,rfl⟩:=own_vw q4
   have HGA2:=hid hga
   have HOFR:=hid hof
   have hxx:=HX.out
   have HX11:=hid (hxx.trans hx11)
   replace G1:=hid (G1.out.ext hx11)
   replace G2:=hid (G2.out.ext hx11)
   replace HROW:=hid (HROW.out.ext hx11)
   replace HO1:=hid (own_ext HO1.out hx11)
   replace HO2:=hid (own_ext HO2.out hx11)
   replace HO3:=hid (own_ext HO3.out hx11)
   have HGFEW:=hid (hof.few (by have:=HPF.out;omega))
   have HCD:=hid hof.code
   clear hxx hx11 HX HQ hgi hga hof q1 q2 q3 q4 G0
   unfold golV
   iterate 5 (refine wpList_plain rfl fun Y y'=>?_;go_simp;refine y' _ _ ?_;clear y' Y)
   have hax:=Ext.alloc w11 (.cells #[.slice none 0 0,.slice none 0 0,.slice none 0 0,.bool false,.bool false,.bool false,.int .i64 0,.int .i64 0,.slice none 0 0] 39)
   have har:RowAt (w11.alloc (.cells #[.slice none 0 0,.slice none 0 0,.slice none 0 0,.bool false,.bool false,.bool false,.int .i64 0,.int .i64 0,.slice none 0 0] 39)) w11.heap.size 39 (#[.slice none 0 0,.slice none 0 0,.slice none 0 0,.bool false,.bool false,.bool false,.int .i64 0,.int .i64 0,.slice none 0 0]).toList:=RowAt.new _ _ _
   refine plain_store rfl _ _ _ rfl w11.heap.size (golC (.slice va2 G2'.vars.length vc2) (.slice aa2 G2'.atoms.length ac2) (.slice ra2 G2'.ret.length rc2) (.slice ha2 G2'.hint.length hc2) G2') rfl rfl har (by kernel_rfl) rfl ((by simp [golC,Value.oneCell'])) ?_
   have hex:Ext w11 ((w11.alloc (.cells #[.slice none 0 0,.slice none 0 0,.slice none 0 0,.bool false,.bool false,.bool false,.int .i64 0,.int .i64 0,.slice none 0 0] 39)).setRow w11.heap.size (golC (.slice va2 G2'.vars.length vc2) (.slice aa2 G2'.atoms.length ac2) (.slice ra2 G2'.ret.length rc2) (.slice ha2 G2'.hint.length hc2) G2').toArray):=below_setRow hax (Nat.le_refl _) _
   have HEw12:=hid hex
   have HRz:=hid (har.setRow (golC (.slice va2 G2'.vars.length vc2) (.slice aa2 G2'.atoms.length ac2) (.slice ra2 G2'.ret.length rc2) (.slice ha2 G2'.hint.length hc2) G2'))
   clear hax har hex
   go_simp
   generalize (w11.alloc (.cells #[.slice none 0 0,.slice none 0 0,.slice none 0 0,.bool false,.bool false,.bool false,.int .i64 0,.int .i64 0,.slice none 0 0] 39)).setRow w11.heap.size (golC (.slice va2 G2'.vars.length vc2) (.slice aa2 G2'.atoms.length ac2) (.slice ra2 G2'.ret.length rc2) (.slice ha2 G2'.hint.length hc2) G2').toArray = w12 at *
   obtain ⟨z,hsz⟩:∃ x,w11.heap.size = x:=⟨_,rfl⟩
   rw [hsz] at HRz
   simp only [hsz]
   have HSz:=hid hsz
   clear hsz
   iterate 2 (refine wpList_plain rfl fun Y y'=>?_;go_simp;refine y' _ _ ?_;clear y' Y)
   apply wpList_nil
   have HX12:=hid (HX11.out.trans HEw12.out)
   replace G1:=hid (G1.out.ext HEw12.out)
   replace G2:=hid (G2.out.ext HEw12.out)
   replace HROW:=hid (HROW.out.ext HEw12.out)
   replace HO1:=hid (own_ext HO1.out HEw12.out)
   replace HO2:=hid (own_ext HO2.out HEw12.out)
   replace HO3:=hid (own_ext HO3.out HEw12.out)
   replace HGA2:=hid (HGA2.out.ext HEw12.out)
   clear HEw12 HX11 HSz
   cases okb
   case false =>
    have HNO:=hid (HBD.out rfl)
    clear HGD HBD
    go_upto_region 11 with fail
    apply wp_region_lit
    (refine wpList_plain rfl fun Y y'=>?_;go_simp;refine y' _ _ ?_;clear y' Y)
    refine plain_store rfl _ _ _ rfl y2 ([.slice none 0 0,.slice none 0 0,.bool false,.bool false,.bool false,.int .i64 0,.int .i64 0,.slice none 0 0]) rfl rfl (G2.out) (by kernel_rfl) rfl ((by simp [Value.oneCell'])) ?_
    have HRR:=hid ((G2.out).setRow ([.slice none 0 0,.slice none 0 0,.bool false,.bool false,.bool false,.int .i64 0,.int .i64 0,.slice none 0 0]))
    have HXX:=hid (show Ext w ((w12).setRow y2 ([.slice none 0 0,.slice none 0 0,.bool false,.bool false,.bool false,.int .i64 0,.int .i64 0,.slice none 0 0]).toArray) from below_setRow (HX12.out) (HY.out.2.2) _)
    go_simp
    generalize (w12).setRow y2 ([.slice none 0 0,.slice none 0 0,.bool false,.bool false,.bool false,.int .i64 0,.int .i64 0,.slice none 0 0]).toArray = wend at *
    (refine wpList_plain rfl fun Y y'=>?_;go_simp;refine y' _ _ ?_;clear y' Y)
    apply wpList_nil
    go_wp2_with fail
    exact bodyPost_ret (results_row1 rfl rfl HRR.out Tryz.underlying35 rfl (by kernel_rfl)) rfl (⟨_,noPat,281,rfl,.goal HOK.out HNO.out,noPat_own _ _,HXX.out⟩)
   case true =>
    have hgd:=HGD.out rfl
    have hbf:=backF_of hgd.1 hgd.2.1 hgd.2.2
    rw [HPE.out] at hbf
    have hiff:=HOFR.out.goal HOK.out G
    have HBF:=hid hbf
    have HIF:=hid hiff
    clear hgd hbf hiff HGD HBD
    by_cases hc0:c2 = 0
    ·subst hc0
     have HSM:=hid (sameG_any _ _ G2' G w12 HGA2.out ⟨_,_,_,_,rfl,Strs.ext HGV.out HX12.out,HGA.out.ext HX12.out,HGR.out.ext HX12.out,HGH.out.ext HX12.out⟩ HGFEW.out (by have:=HFT.out.few.1;omega))
     unfold golV at HSM
     obtain ⟨sb,hsb⟩:∃ b,decide (G2' = G) = b:=⟨_,rfl⟩
     rw [hsb] at HSM
     have HSB:=hid hsb
     clear hsb
     obtain ⟨d0,d1,d2,d3,d4,d5,d6,d7,d8⟩:=row9_facts (show RowAt w12 y1 39 [.slice va G.vars.length vc,.slice aa G.atoms.length ac,.slice ra G.ret.length rc,.bool G.count,.bool G.distinct,.bool G.limited,.int .i64 G.limit,.int .i64 G.offset,.slice ha G.hint.length hc] from G1.out)
     obtain ⟨e0,e1,e2,e3,e4,e5,e6,e7,e8⟩:=row9_facts (show RowAt w12 z 39 [.slice va2 G2'.vars.length vc2,.slice aa2 G2'.atoms.length ac2,.slice ra2 G2'.ret.length rc2,.bool G2'.count,.bool G2'.distinct,.bool G2'.limited,.int .i64 G2'.limit,.int .i64 G2'.offset,.slice ha2 G2'.hint.length hc2] from HRz.out)
     go_wp2_with fail
     refine HSM.out.mono ?_
     rintro e w13 ⟨rfl,hx13⟩
     have HX13:=hid (HX12.out.trans hx13)
     replace G2:=hid (G2.out.ext hx13)
     replace HROW:=hid (HROW.out.ext hx13)
     replace HO1:=hid (own_ext HO1.out hx13)
     replace HO2:=hid (own_ext HO2.out hx13)
     replace HO3:=hid (own_ext HO3.out hx13)
     clear hx13 d0 d1 d2 d3 d4 d5 d6 d7 d8 e0 e1 e2 e3 e4 e5 e6 e7 e8 HSM G1 HRz HGA2 HX12
     cases sb
     case false =>
      have HNO:=hid (show backF D G = none by
       rw [HBF.out,if_neg (fun h=>of_decide_eq_false HSB.out (HIF.out.2 h).2)])
      go_upto_region 11 with fail
      apply wp_region_lit
      (refine wpList_plain rfl fun Y y'=>?_;go_simp;refine y' _ _ ?_;clear y' Y)
      refine plain_store rfl _ _ _ rfl y2 ([.slice none 0 0,.slice none 0 0,.bool false,.bool false,.bool false,.int .i64 0,.int .i64 0,.slice none 0 0]) rfl rfl (G2.out) (by kernel_rfl) rfl ((by simp [Value.oneCell'])) ?_
      have HRR:=hid ((G2.out).setRow ([.slice none 0 0,.slice none 0 0,.bool false,.bool false,.bool false,.int .i64 0,.int .i64 0,.slice none 0 0]))
      have HXX:=hid (show Ext w ((w13).setRow y2 ([.slice none 0 0,.slice none 0 0,.bool false,.bool false,.bool false,.int .i64 0,.int .i64 0,.slice none 0 0]).toArray) from below_setRow (HX13.out) (HY.out.2.2) _)
      go_simp
      generalize (w13).setRow y2 ([.slice none 0 0,.slice none 0 0,.bool false,.bool false,.bool false,.int .i64 0,.int .i64 0,.slice none 0 0]).toArray = wend at *
      (refine wpList_plain rfl fun Y y'=>?_;go_simp;refine y' _ _ ?_;clear y' Y)
      apply wpList_nil
      go_wp2_with fail
      exact bodyPost_ret (results_row1 rfl rfl HRR.out Tryz.underlying35 rfl (by kernel_rfl)) rfl (⟨_,noPat,281,rfl,.goal HOK.out HNO.out,noPat_own _ _,HXX.out⟩)
     case true =>
      have HYES:=hid (show backF D G = some P by
       rw [HBF.out,if_pos (HIF.out.1 ⟨by first | rfl | trivial,of_decide_eq_true HSB.out⟩)])
      go_upto_region 12 with fail
      apply wp_region_lit
      refine plain_load rfl _ _ rfl bg rfl _ _ (HROW.out) Tryz.underlying35 rfl (by kernel_rfl) ?_
      go_simp
      have hgs:=fun cs=>setRow_grown w13 y2 cs
      have HP1:=hid (fun cs=>own_turn HO1.out G2.out (by decide) (hgs cs))
      have HP2:=hid (fun cs=>own_turn HO2.out G2.out (by decide) (hgs cs))
      have HP3:=hid (fun cs=>own_turn HO3.out G2.out (by decide) (hgs cs))
      clear hgs HO1 HO2 HO3
      refine plain_store rfl _ _ _ rfl y2 (patL (.slice paa P.atoms.length pac) (.slice pra2 P.ret.length prc2) (.slice pha P.hint.length phc) P) rfl rfl (G2.out) (by kernel_rfl) rfl ((by simp [patL,Value.oneCell'])) ?_
      have HRR:=hid ((G2.out).setRow (patL (.slice paa P.atoms.length pac) (.slice pra2 P.ret.length prc2) (.slice pha P.hint.length phc) P))
      have HXX:=hid (show Ext w ((w13).setRow y2 (patL (.slice paa P.atoms.length pac) (.slice pra2 P.ret.length prc2) (.slice pha P.hint.length phc) P).toArray) from below_setRow (HX13.out) (HY.out.2.2) _)
      have HQ1:=hid (HP1.out (patL (.slice paa P.atoms.length pac) (.slice pra2 P.ret.length prc2) (.slice pha P.hint.length phc) P).toArray)
      have HQ2:=hid (HP2.out (patL (.slice paa P.atoms.length pac) (.slice pra2 P.ret.length prc2) (.slice pha P.hint.length phc) P).toArray)
      have HQ3:=hid (HP3.out (patL (.slice paa P.atoms.length pac) (.slice pra2 P.ret.length prc2) (.slice pha P.hint.length phc) P).toArray)
      clear HP1 HP2 HP3
      go_simp
      generalize (w13).setRow y2 (patL (.slice paa P.atoms.length pac) (.slice pra2 P.ret.length prc2) (.slice pha P.hint.length phc) P).toArray = wend at *
      (refine wpList_plain rfl fun Y y'=>?_;go_simp;refine y' _ _ ?_;clear y' Y)
      apply wpList_nil
      go_wp2_with fail
      exact bodyPost_ret (results_row1 rfl rfl HRR.out Tryz.underlying35 rfl (by kernel_rfl)) rfl (⟨_,P,0,rfl,.ok HOK.out HYES.out,⟨_,_,_,rfl,HQ1.out,HQ2.out,HQ3.out⟩,HXX.out⟩)
    ·have HNO:=hid (show backF D G = none by
      rw [HBF.out,if_neg (fun h=>hc0 (HIF.out.2 h).1)])
     have hcb:(c2 != 0) = true:=by simpa using hc0
     clear hc0
     go_upto_region 11 with fail
     apply wp_region_lit
     (refine wpList_plain rfl fun Y y'=>?_;go_simp;refine y' _ _ ?_;clear y' Y)
     refine plain_store rfl _ _ _ rfl y2 ([.slice none 0 0,.slice none 0 0,.bool false,.bool false,.bool false,.int .i64 0,.int .i64 0,.slice none 0 0]) rfl rfl (G2.out) (by kernel_rfl) rfl ((by simp [Value.oneCell'])) ?_
     have HRR:=hid ((G2.out).setRow ([.slice none 0 0,.slice none 0 0,.bool false,.bool false,.bool false,.int .i64 0,.int .i64 0,.slice none 0 0]))
     have HXX:=hid (show Ext w ((w12).setRow y2 ([.slice none 0 0,.slice none 0 0,.bool false,.bool false,.bool false,.int .i64 0,.int .i64 0,.slice none 0 0]).toArray) from below_setRow (HX12.out) (HY.out.2.2) _)
     go_simp
     generalize (w12).setRow y2 ([.slice none 0 0,.slice none 0 0,.bool false,.bool false,.bool false,.int .i64 0,.int .i64 0,.slice none 0 0]).toArray = wend at *
     (refine wpList_plain rfl fun Y y'=>?_;go_simp;refine y' _ _ ?_;clear y' Y)
     apply wpList_nil
     go_wp2_with fail
     exact bodyPost_ret (results_row1 rfl rfl HRR.out Tryz.underlying35 rfl (by kernel_rfl)) rfl (⟨_,noPat,281,rfl,.goal HOK.out HNO.out,noPat_own _ _,HXX.out⟩)
end

end Go.Proofs.YtkmbnghghbfkdaaGreat
