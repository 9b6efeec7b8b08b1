/- The law's own goals: copies in memory of their own. -/
import Derived.Test.YtkmbnghghbfkdaaGreatGp36
set_option linter.unusedSimpArgs false
set_option linter.unusedVariables false
set_option maxHeartbeats 2000000
set_option maxRecDepth 100000
namespace Go.Proofs.YtkmbnghghbfkdaaGreat
open Go.Lib (hid)

section
open Go.RowKit Go.Shelf Go.Sort
attribute [local go_sem] Oper.semAt_some wide_fn wide_depth
theorem eqNil_cloneB0 (a:Option Addr) (n c n' c':Nat) (w:World):(binOp .eql 37 (.slice a n c) (.slice none n' c')).run Tryz.prog w = .ok (.bool a.isNone) w :=
 Lib.run_eql_slice_nil w _ _ a n c n' c' Tryz.underlying37
set_option maxHeartbeats 400000 in
theorem cloneB0 (v:Value) (n:Nat) (xs:List Value) (w:World) (hv:Sl w v n xs) (hl:xs.length = n * 6) (h1:∀ x ∈ xs,x.oneCell' = true) (hn:n ≤ 1048576) :
 Calls Tryz.prog 66 #[v] w fun e w'=>∃ u,e = .returned u ∧ w'.ownsRow w.heap.size 75 6 u n xs ∧ Ext w w':=by
 have hv':=hv
 obtain ⟨a,cap,rfl,hcap,hmax,hc⟩:=hv'.open_
 have hq:=eqNil_cloneB0
 have H1:=hid h1
 have HL:=hid hl
 cases a with
 | none =>
  have hl':xs = []:=List.eq_nil_of_length_eq_zero (by rcases Nat.eq_zero_or_pos xs.length with h | h;exact h;obtain ⟨_,_,h,_⟩:=hc 0 h;cases h)
  clear hv' hc
  subst hl'
  obtain rfl:n = 0:=by simp at hl;omega
  clear h1 hl
  go_enter Tryz.func66,Tryz.ntmps66
  go_wp2
  go_ret
  exact ⟨_,rfl,World.ownsRow_nil _ _ _ _,Ext.refl _⟩
 | some ad =>
  have HV:=hid hv
  clear hv' hc h1 hl hv
  go_enter Tryz.func66,Tryz.ntmps66
  go_wp2_with (at_builtin;refine wpList_append_sl _ rfl _ _ _ rfl elBn rfl (own_new w w.heap.size #[] 75 6 0 (Nat.le_refl _) rfl (Nat.zero_le _)) rfl (HV.out.ext (Ext.alloc _ _)) ?_ H1.out ?_ ?_ ?_ ?_)
  ·rw [HL.out]
  ·omega
  ·unfold maxLen;omega
  ·simp
  intro v1 w1 hown hb _ _
  go_wp2
  go_ret
  exact ⟨_,rfl,by simpa using hown,Below.trans (Ext.alloc w _) hb⟩
theorem bndsCells_one (l:List Bnd):∀ x ∈ l.flatMap bndCells,x.oneCell' = true:=by
 intro x hx
 obtain ⟨a,_,hx⟩:=List.mem_flatMap.1 hx
 unfold bndCells at hx
 simp only [List.mem_cons,List.not_mem_nil,or_false] at hx
 rcases hx with rfl | rfl | rfl | rfl | rfl | rfl <;> rfl
theorem cloneBnds_any (v:Value) (l:List Bnd) (w:World) (hv:Bnds w v l) (hn:l.length ≤ 1048576) :
 Calls Tryz.prog 66 #[v] w fun e w'=>∃ u,e = .returned u ∧ w'.ownsRow w.heap.size 75 6 u l.length (l.flatMap bndCells) ∧ Ext w w' :=
 cloneB0 v l.length _ w hv (flatMap_len bndCells 6 (fun _=>rfl) l) (bndsCells_one l) hn
theorem bnds_take {w:World} {a:Option Addr} {n cap:Nat} {l:List Bnd} (h:Bnds w (.slice a n cap) l) (m:Nat) (hm:m ≤ l.length):Bnds w (.slice a m cap) (l.take m):=by
 obtain ⟨a',c',e,h1,h2,h3⟩:=h
 cases e
 unfold Bnds
 rw [List.length_take,Nat.min_eq_left hm]
 refine ⟨a,cap,rfl,by omega,h2,fun hp=>?_⟩
 have hlen:=flatMap_len bndCells 6 (fun _=>rfl) l
 have hlen2:=flatMap_len bndCells 6 (fun _=>rfl) (l.take m)
 have hlm:((l.take m).flatMap bndCells).length = m * 6:=by rw [hlen2,List.length_take,Nat.min_eq_left hm]
 have hpre:(l.take m).flatMap bndCells = (l.flatMap bndCells).take (m * 6):=by
  have e:l.flatMap bndCells = (l.take m).flatMap bndCells ++ (l.drop m).flatMap bndCells:=by rw [← List.flatMap_append,List.take_append_drop]
  rw [e,List.take_append_of_le_length (by omega)]
  exact (List.take_of_length_le (by omega)).symm
 obtain ⟨b,o,rfl,hc⟩:=h3 (by rw [hlen2,List.length_take] at hp;omega)
 refine ⟨b,o,rfl,fun i u hu=>hc i u ?_⟩
 rw [hpre,List.getElem?_take] at hu
 split at hu
 ·exact hu
 ·cases hu
def cutG (G:Gol):Gol:=⟨G.vars.take 34,G.atoms.take 42,G.ret.take 36,G.count,G.distinct,G.limited,G.limit,G.offset,G.hint.take 36⟩
def groG1:Nat → Gro
 | 1=>.read
 | 3=>.read
 | 7=>.grow
 | 9=>.read
 | 11=>.read
 | 15=>.grow
 | 17=>.write
 | 19=>.write
 | _=>.pure
theorem ownG_any (v:Value) (G:Gol) (w:World) (h:GolAt w v G) :
 Calls Tryz.prog 28 #[v] w fun e w'=>∃ u,e = .returned u ∧ GolIn w.heap.size w' u (cutG G) ∧ Ext w w':=by
 have hmo:Tryz.prog.follows .mixedOrders = true:=by kernel_rfl
 obtain ⟨vv,av,rv,hv,rfl,hvv,ha,hr,hh⟩:=h
 obtain ⟨vva,vvc,rfl,hvc,_⟩:=Sl.shape hvv
 obtain ⟨ava,avc,rfl,hac,_⟩:=ha.shape
 obtain ⟨rva,rvc,rfl,hrc,_⟩:=hr.shape
 obtain ⟨hva,hvc2,rfl,hhc,_⟩:=hh.shape
 obtain ⟨vars,atoms,ret,cn,ds,lm,li,off,hint⟩:=G
 unfold golV golC cutG
 dsimp only at *
 obtain ⟨nv,hnv⟩:∃ n,min vars.length 34 = n:=⟨_,rfl⟩
 have inv:min (vars.length:Int) 34 = nv:=by omega
 have lnv:nv ≤ vars.length:=by omega
 have knv:nv ≤ vvc:=by omega
 have tnv:vars.take 34 = vars.take nv:=by rw [← hnv,List.take_eq_take_min,Nat.min_comm]
 rw [tnv]
 obtain ⟨V,env⟩:∃ l,vars.take nv = l:=⟨_,rfl⟩
 have mnv:V.length ≤ 1048576:=by rw [← env,List.length_take];omega
 rw [env]
 obtain ⟨na,hna⟩:∃ n,min atoms.length 42 = n:=⟨_,rfl⟩
 have ina:min (atoms.length:Int) 42 = na:=by omega
 have lna:na ≤ atoms.length:=by omega
 have kna:na ≤ avc:=by omega
 have tna:atoms.take 42 = atoms.take na:=by rw [← hna,List.take_eq_take_min,Nat.min_comm]
 rw [tna]
 obtain ⟨A,ena⟩:∃ l,atoms.take na = l:=⟨_,rfl⟩
 have mna:A.length ≤ 1048576:=by rw [← ena,List.length_take];omega
 rw [ena]
 obtain ⟨nr,hnr⟩:∃ n,min ret.length 36 = n:=⟨_,rfl⟩
 have inr:min (ret.length:Int) 36 = nr:=by omega
 have lnr:nr ≤ ret.length:=by omega
 have knr:nr ≤ rvc:=by omega
 have tnr:ret.take 36 = ret.take nr:=by rw [← hnr,List.take_eq_take_min,Nat.min_comm]
 rw [tnr]
 obtain ⟨R,enr⟩:∃ l,ret.take nr = l:=⟨_,rfl⟩
 have mnr:R.length ≤ 1048576:=by rw [← enr,List.length_take];omega
 rw [enr]
 obtain ⟨nh,hnh⟩:∃ n,min hint.length 36 = n:=⟨_,rfl⟩
 have inh:min (hint.length:Int) 36 = nh:=by omega
 have lnh:nh ≤ hint.length:=by omega
 have knh:nh ≤ hvc2:=by omega
 have tnh:hint.take 36 = hint.take nh:=by rw [← hnh,List.take_eq_take_min,Nat.min_comm]
 rw [tnh]
 obtain ⟨H,enh⟩:∃ l,hint.take nh = l:=⟨_,rfl⟩
 have mnh:H.length ≤ 1048576:=by rw [← enh,List.length_take];omega
 rw [enh]
 have HV:=hid (fun w' (hx:Ext w w')=>cloneStrs_any (.slice vva nv vvc) V w' (env ▸ strs_take (Strs.ext hvv hx) nv lnv) mnv)
 have HA:=hid (fun w' (hx:Ext w w')=>cloneBnds_any (.slice ava na avc) A w' (ena ▸ bnds_take (ha.ext hx) na lna) mna)
 have HR:=hid (fun w' (hx:Ext w w')=>cloneI (.slice rva nr rvc) R w' (enr ▸ Ints.take (hr.ext hx) nr lnr) mnr)
 have HH:=hid (fun w' (hx:Ext w w')=>cloneI (.slice hva nh hvc2) H w' (enh ▸ Ints.take (hh.ext hx) nh lnh) mnh)
 clear env ena enr enh
 have hbx:=boxes2 w [(.slice vva vars.length vvc),(.slice ava atoms.length avc),(.slice rva ret.length rvc),.bool cn,.bool ds,.bool lm,.int .i64 li,.int .i64 off,(.slice hva hint.length hvc2)] 39 [.slice none 0 0,.slice none 0 0,.slice none 0 0,.bool false,.bool false,.bool false,.int .i64 0,.int .i64 0,.slice none 0 0] 39
 have HX:=hid hbx.1
 have HB:=hid hbx.2.1
 have HN:=hid hbx.2.2
 clear hbx hvv ha hr hh hnv hna hnr hnh tnv tna tnr tnh
 go_enter Tryz.func28,Tryz.ntmps28
 go_upto_region 1 with fail
 have e1:(w.alloc (.cells [(.slice vva vars.length vvc),(.slice ava atoms.length avc),(.slice rva ret.length rvc),.bool cn,.bool ds,.bool lm,.int .i64 li,.int .i64 off,(.slice hva hint.length hvc2)].toArray 39)).alloc (.cells [.slice none 0 0,.slice none 0 0,.slice none 0 0,.bool false,.bool false,.bool false,.int .i64 0,.int .i64 0,.slice none 0 0].toArray 39) = (w.alloc (.cells #[(.slice vva vars.length vvc),(.slice ava atoms.length avc),(.slice rva ret.length rvc),.bool cn,.bool ds,.bool lm,.int .i64 li,.int .i64 off,(.slice hva hint.length hvc2)] 39)).alloc (.cells #[.slice none 0 0,.slice none 0 0,.slice none 0 0,.bool false,.bool false,.bool false,.int .i64 0,.int .i64 0,.slice none 0 0] 39):=rfl
 rw [e1] at HX HB HN
 clear e1
 generalize (w.alloc (.cells #[(.slice vva vars.length vvc),(.slice ava atoms.length avc),(.slice rva ret.length rvc),.bool cn,.bool ds,.bool lm,.int .i64 li,.int .i64 off,(.slice hva hint.length hvc2)] 39)).alloc (.cells #[.slice none 0 0,.slice none 0 0,.slice none 0 0,.bool false,.bool false,.bool false,.int .i64 0,.int .i64 0,.slice none 0 0] 39) = w1 at *
 obtain ⟨x,hx⟩:∃ x,w.heap.size = x:=⟨_,rfl⟩
 obtain ⟨y,hy⟩:∃ y,x + 1 = y:=⟨_,rfl⟩
 rw [hx] at HB HN
 rw [hy] at HN
 simp only [hx,hy]
 have HWX:=hid hx
 have HWY:=hid (show w.heap.size ≤ y by omega)
 have hxy:x ≠ y:=by omega
 clear hx hy
 refine wp_region_gro groG1 [0,1,2,3,4,5,6,8,9,10,11,12,13,14,7,16,15,17,18,19] hmo (by kernel_rfl) rfl (by kernel_rfl) (fun _ _ _ _ _ h=>h) ?_
 have hxd:Ext w1 w1.drew:=Ext.drewN w1 1
 replace HX:=hid (HX.out.trans hxd)
 replace HB:=hid (HB.out.ext hxd)
 replace HN:=hid (HN.out.ext hxd)
 clear hxd
 generalize w1.drew = w1d at *
 obtain ⟨d0,d1,d2,d3,d4,d5,d6,d7,d8⟩:=row9_facts HB.out
 repeat (first
  | (refine groL_pure rfl rfl ?_;intro K hK;go_simp;refine hK _ ?_;clear hK K)
  | (refine groL_read rfl rfl ?_;intro K S hS hK;go_simp;refine hK _ ?_;clear hK K hS S)
  | (refine groL_read rfl rfl ?_;intro K S hS hK;go_simp;refine ⟨hS _ ?_,hK _ ?_⟩;(clear hK K hS S;intro w' hx';have hce:=ext_some hx';go_simp);clear hK K hS S)
  | (refine groL_write rfl rfl ?_;intro K hK;go_simp;refine hK _ _ ?_;clear hK K))
 have HC1:=hid (HV.out w1d HX.out)
 refine groL_grow rfl rfl ?_
 intro K hK
 go_simp
 (refine HC1.out.mono ?_;rintro e w1a ⟨u1,rfl,ho,hxa⟩)
 go_simp
 refine hK _ _ ⟨hxa,?_⟩
 clear hK K
 have HO1:=hid (own_base ho (show w.heap.size ≤ w1d.heap.size from HX.out.size))
 replace HX:=hid (HX.out.trans hxa)
 replace HB:=hid (HB.out.ext hxa)
 replace HN:=hid (HN.out.ext hxa)
 have HC2:=hid (HA.out w1a HX.out)
 clear ho hxa HC1
 repeat (first
  | (refine groL_pure rfl rfl ?_;intro K hK;go_simp;refine hK _ ?_;clear hK K)
  | (refine groL_read rfl rfl ?_;intro K S hS hK;go_simp;refine hK _ ?_;clear hK K hS S)
  | (refine groL_read rfl rfl ?_;intro K S hS hK;go_simp;refine ⟨hS _ ?_,hK _ ?_⟩;(clear hK K hS S;intro w' hx';have hce:=ext_some hx';go_simp);clear hK K hS S)
  | (refine groL_write rfl rfl ?_;intro K hK;go_simp;refine hK _ _ ?_;clear hK K))
 refine groL_grow rfl rfl ?_
 intro K hK
 go_simp
 (refine HC2.out.mono ?_;rintro e w1b ⟨u2,rfl,ho,hxb⟩)
 go_simp
 refine hK _ _ ⟨hxb,?_⟩
 clear hK K
 have HO2:=hid (own_base ho (show w.heap.size ≤ w1a.heap.size from HX.out.size))
 replace HX:=hid (HX.out.trans hxb)
 replace HB:=hid (HB.out.ext hxb)
 replace HN:=hid (HN.out.ext hxb)
 replace HO1:=hid (own_ext HO1.out hxb)
 clear ho hxb HC2 d0 d1 d2 d3 d4 d5 d6 d7 d8
 obtain ⟨z1a,z1c,rfl⟩:=own_vw HO1.out
 obtain ⟨z2a,z2c,rfl⟩:=own_vw HO2.out
 have hgt:∀ W i v,World.grownBy W (W.setCell ⟨x,i,none⟩ v) (some x):=fun W i v=>grown_set W x i v
 have HG1:=hid (HB.out.set 0 (.slice z1a V.length z1c))
 have HW:Hid (RowAt ((w1b.setCell ⟨x,0,none⟩ (.slice z1a V.length z1c)).setCell ⟨x,1,none⟩ (.slice z2a A.length z2c)) x 39 [(.slice z1a V.length z1c),(.slice z2a A.length z2c),(.slice rva ret.length rvc),.bool cn,.bool ds,.bool lm,.int .i64 li,.int .i64 off,(.slice hva hint.length hvc2)]):=hid (HG1.out.set 1 (.slice z2a A.length z2c))
 have HXF:=hid (Ext.set_of (Ext.set_of HX.out (Nat.le_of_eq HWX.out) (o:=0) (.slice z1a V.length z1c)) (Nat.le_of_eq HWX.out) (o:=1) (.slice z2a A.length z2c))
 have HNF:=hid ((HN.out.kept (hgt w1b 0 (.slice z1a V.length z1c)) (fun e=>hxy (Option.some.inj e))).kept (hgt _ 1 (.slice z2a A.length z2c)) (fun e=>hxy (Option.some.inj e)))
 have HO1F:=hid (own_turn (own_turn HO1.out HB.out (by decide) (hgt w1b 0 (.slice z1a V.length z1c))) HG1.out (by decide) (hgt _ 1 (.slice z2a A.length z2c)))
 have HO2F:=hid (own_turn (own_turn HO2.out HB.out (by decide) (hgt w1b 0 (.slice z1a V.length z1c))) HG1.out (by decide) (hgt _ 1 (.slice z2a A.length z2c)))
 have f0:=HB.out.cell (i:=0) rfl
 have f1:=HB.out.cell (i:=1) rfl
 have g0:=HB.out.frozen 0
 have g1:=HB.out.frozen 1
 clear hgt
 repeat (first
  | (refine groL_pure rfl rfl ?_;intro K hK;go_simp;refine hK _ ?_;clear hK K)
  | (refine groL_read rfl rfl ?_;intro K S hS hK;go_simp;refine hK _ ?_;clear hK K hS S)
  | (refine groL_read rfl rfl ?_;intro K S hS hK;go_simp;refine ⟨hS _ ?_,hK _ ?_⟩;(clear hK K hS S;intro w' hx';have hce:=ext_some hx';go_simp);clear hK K hS S)
  | (refine groL_write rfl rfl ?_;intro K hK;go_simp;refine hK _ _ ?_;clear hK K))
 refine groL_nil ?_
 clear f0 f1 g0 g1 HB HG1 HX HN HO1 HO2
 generalize ((w1b.setCell ⟨x,0,none⟩ (.slice z1a V.length z1c)).setCell ⟨x,1,none⟩ (.slice z2a A.length z2c)) = w1e at *
 have HX:=hid HXF.out
 have HB:=hid HW.out
 have HN:=hid HNF.out
 have HO1:=hid HO1F.out
 have HO2:=hid HO2F.out
 clear HXF HW HNF HO1F HO2F
 go_upto_region 2 with fail
 refine wp_region_gro groG1 [0,1,2,3,4,5,6,8,9,10,11,12,13,14,7,16,15,17,18,19] hmo (by kernel_rfl) rfl (by kernel_rfl) (fun _ _ _ _ _ h=>h) ?_
 have hxd:Ext w1e w1e.drew:=Ext.drewN w1e 1
 replace HX:=hid (HX.out.trans hxd)
 replace HB:=hid (HB.out.ext hxd)
 replace HN:=hid (HN.out.ext hxd)
 replace HO1:=hid (own_ext HO1.out hxd)
 replace HO2:=hid (own_ext HO2.out hxd)
 clear hxd
 generalize w1e.drew = w1ed at *
 obtain ⟨d0,d1,d2,d3,d4,d5,d6,d7,d8⟩:=row9_facts HB.out
 repeat (first
  | (refine groL_pure rfl rfl ?_;intro K hK;go_simp;refine hK _ ?_;clear hK K)
  | (refine groL_read rfl rfl ?_;intro K S hS hK;go_simp;refine hK _ ?_;clear hK K hS S)
  | (refine groL_read rfl rfl ?_;intro K S hS hK;go_simp;refine ⟨hS _ ?_,hK _ ?_⟩;(clear hK K hS S;intro w' hx';have hce:=ext_some hx';go_simp);clear hK K hS S)
  | (refine groL_write rfl rfl ?_;intro K hK;go_simp;refine hK _ _ ?_;clear hK K))
 have HC1:=hid (HR.out w1ed HX.out)
 refine groL_grow rfl rfl ?_
 intro K hK
 go_simp
 (refine HC1.out.mono ?_;rintro e w1ea ⟨z3a,z3c,rfl,ho,hxa⟩)
 go_simp
 refine hK _ _ ⟨hxa,?_⟩
 clear hK K
 have HO3:=hid (own_base ho (show w.heap.size ≤ w1ed.heap.size from HX.out.size))
 replace HX:=hid (HX.out.trans hxa)
 replace HB:=hid (HB.out.ext hxa)
 replace HN:=hid (HN.out.ext hxa)
 replace HO1:=hid (own_ext HO1.out hxa)
 replace HO2:=hid (own_ext HO2.out hxa)
 have HC2:=hid (HH.out w1ea HX.out)
 clear ho hxa HC1
 repeat (first
  | (refine groL_pure rfl rfl ?_;intro K hK;go_simp;refine hK _ ?_;clear hK K)
  | (refine groL_read rfl rfl ?_;intro K S hS hK;go_simp;refine hK _ ?_;clear hK K hS S)
  | (refine groL_read rfl rfl ?_;intro K S hS hK;go_simp;refine ⟨hS _ ?_,hK _ ?_⟩;(clear hK K hS S;intro w' hx';have hce:=ext_some hx';go_simp);clear hK K hS S)
  | (refine groL_write rfl rfl ?_;intro K hK;go_simp;refine hK _ _ ?_;clear hK K))
 refine groL_grow rfl rfl ?_
 intro K hK
 go_simp
 (refine HC2.out.mono ?_;rintro e w1eb ⟨z4a,z4c,rfl,ho,hxb⟩)
 go_simp
 refine hK _ _ ⟨hxb,?_⟩
 clear hK K
 have HO4:=hid (own_base ho (show w.heap.size ≤ w1ea.heap.size from HX.out.size))
 replace HX:=hid (HX.out.trans hxb)
 replace HB:=hid (HB.out.ext hxb)
 replace HN:=hid (HN.out.ext hxb)
 replace HO3:=hid (own_ext HO3.out hxb)
 replace HO1:=hid (own_ext HO1.out hxb)
 replace HO2:=hid (own_ext HO2.out hxb)
 clear ho hxb HC2 d0 d1 d2 d3 d4 d5 d6 d7 d8
 have hgt:∀ W i v,World.grownBy W (W.setCell ⟨x,i,none⟩ v) (some x):=fun W i v=>grown_set W x i v
 have HG1:=hid (HB.out.set 2 (.slice z3a R.length z3c))
 have HW:Hid (RowAt ((w1eb.setCell ⟨x,2,none⟩ (.slice z3a R.length z3c)).setCell ⟨x,8,none⟩ (.slice z4a H.length z4c)) x 39 [(.slice z1a V.length z1c),(.slice z2a A.length z2c),(.slice z3a R.length z3c),.bool cn,.bool ds,.bool lm,.int .i64 li,.int .i64 off,(.slice z4a H.length z4c)]):=hid (HG1.out.set 8 (.slice z4a H.length z4c))
 have HXF:=hid (Ext.set_of (Ext.set_of HX.out (Nat.le_of_eq HWX.out) (o:=2) (.slice z3a R.length z3c)) (Nat.le_of_eq HWX.out) (o:=8) (.slice z4a H.length z4c))
 have HNF:=hid ((HN.out.kept (hgt w1eb 2 (.slice z3a R.length z3c)) (fun e=>hxy (Option.some.inj e))).kept (hgt _ 8 (.slice z4a H.length z4c)) (fun e=>hxy (Option.some.inj e)))
 have HO1F:=hid (own_turn (own_turn HO1.out HB.out (by decide) (hgt w1eb 2 (.slice z3a R.length z3c))) HG1.out (by decide) (hgt _ 8 (.slice z4a H.length z4c)))
 have HO2F:=hid (own_turn (own_turn HO2.out HB.out (by decide) (hgt w1eb 2 (.slice z3a R.length z3c))) HG1.out (by decide) (hgt _ 8 (.slice z4a H.length z4c)))
 have HO3F:=hid (own_turn (own_turn HO3.out HB.out (by decide) (hgt w1eb 2 (.slice z3a R.length z3c))) HG1.out (by decide) (hgt _ 8 (.slice z4a H.length z4c)))
 have HO4F:=hid (own_turn (own_turn HO4.out HB.out (by decide) (hgt w1eb 2 (.slice z3a R.length z3c))) HG1.out (by decide) (hgt _ 8 (.slice z4a H.length z4c)))
 have f0:=HB.out.cell (i:=2) rfl
 have f1:=HB.out.cell (i:=8) rfl
 have g0:=HB.out.frozen 2
 have g1:=HB.out.frozen 8
 clear hgt
 repeat (first
  | (refine groL_pure rfl rfl ?_;intro K hK;go_simp;refine hK _ ?_;clear hK K)
  | (refine groL_read rfl rfl ?_;intro K S hS hK;go_simp;refine hK _ ?_;clear hK K hS S)
  | (refine groL_read rfl rfl ?_;intro K S hS hK;go_simp;refine ⟨hS _ ?_,hK _ ?_⟩;(clear hK K hS S;intro w' hx';have hce:=ext_some hx';go_simp);clear hK K hS S)
  | (refine groL_write rfl rfl ?_;intro K hK;go_simp;refine hK _ _ ?_;clear hK K))
 refine groL_nil ?_
 clear f0 f1 g0 g1 HB HG1 HX HN HO1 HO2 HO3 HO4
 generalize ((w1eb.setCell ⟨x,2,none⟩ (.slice z3a R.length z3c)).setCell ⟨x,8,none⟩ (.slice z4a H.length z4c)) = w1ee at *
 have HX:=hid HXF.out
 have HB:=hid HW.out
 have HN:=hid HNF.out
 have HO1:=hid HO1F.out
 have HO2:=hid HO2F.out
 have HO3:=hid HO3F.out
 have HO4:=hid HO4F.out
 clear HXF HW HNF HO1F HO2F HO3F HO4F
 go_upto_region 3 with fail
 apply wp_region_lit
 refine plain_load rfl _ _ rfl x rfl [(.slice z1a V.length z1c),(.slice z2a A.length z2c),(.slice z3a R.length z3c),.bool cn,.bool ds,.bool lm,.int .i64 li,.int .i64 off,(.slice z4a H.length z4c)] _ HB.out Tryz.underlying39 rfl (by kernel_rfl) ?_
 go_simp
 refine plain_store rfl _ _ _ rfl y [(.slice z1a V.length z1c),(.slice z2a A.length z2c),(.slice z3a R.length z3c),.bool cn,.bool ds,.bool lm,.int .i64 li,.int .i64 off,(.slice z4a H.length z4c)] rfl rfl HN.out (by kernel_rfl) rfl (by simp [Value.oneCell']) ?_
 have HY:=hid (HN.out.setRow [(.slice z1a V.length z1c),(.slice z2a A.length z2c),(.slice z3a R.length z3c),.bool cn,.bool ds,.bool lm,.int .i64 li,.int .i64 off,(.slice z4a H.length z4c)])
 have HXY:=hid (show Ext w (w1ee.setRow y #[(.slice z1a V.length z1c),(.slice z2a A.length z2c),(.slice z3a R.length z3c),.bool cn,.bool ds,.bool lm,.int .i64 li,.int .i64 off,(.slice z4a H.length z4c)]) from below_setRow HX.out HWY.out _)
 have HQ1:=hid (own_turn HO1.out HN.out (by decide) (setRow_grown w1ee y #[(.slice z1a V.length z1c),(.slice z2a A.length z2c),(.slice z3a R.length z3c),.bool cn,.bool ds,.bool lm,.int .i64 li,.int .i64 off,(.slice z4a H.length z4c)]))
 have HQ2:=hid (own_turn HO2.out HN.out (by decide) (setRow_grown w1ee y #[(.slice z1a V.length z1c),(.slice z2a A.length z2c),(.slice z3a R.length z3c),.bool cn,.bool ds,.bool lm,.int .i64 li,.int .i64 off,(.slice z4a H.length z4c)]))
 have HQ3:=hid (own_turn HO3.out HN.out (by decide) (setRow_grown w1ee y #[(.slice z1a V.length z1c),(.slice z2a A.length z2c),(.slice z3a R.length z3c),.bool cn,.bool ds,.bool lm,.int .i64 li,.int .i64 off,(.slice z4a H.length z4c)]))
 have HQ4:=hid (own_turn HO4.out HN.out (by decide) (setRow_grown w1ee y #[(.slice z1a V.length z1c),(.slice z2a A.length z2c),(.slice z3a R.length z3c),.bool cn,.bool ds,.bool lm,.int .i64 li,.int .i64 off,(.slice z4a H.length z4c)]))
 generalize w1ee.setRow y #[(.slice z1a V.length z1c),(.slice z2a A.length z2c),(.slice z3a R.length z3c),.bool cn,.bool ds,.bool lm,.int .i64 li,.int .i64 off,(.slice z4a H.length z4c)] = w7 at *
 go_simp
 apply wpList_nil
 go_wp2_with fail
 exact bodyPost_ret (results_row0 rfl rfl HY.out Tryz.underlying39 rfl (by kernel_rfl)) rfl ⟨_,rfl,⟨_,_,_,_,rfl,HQ1.out,HQ2.out,HQ3.out,HQ4.out⟩,HXY.out⟩
end

end Go.Proofs.YtkmbnghghbfkdaaGreat
