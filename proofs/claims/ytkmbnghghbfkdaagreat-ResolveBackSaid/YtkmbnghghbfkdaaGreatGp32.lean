/- Goals in memory; held against one another. -/
import Derived.Test.YtkmbnghghbfkdaaGreatGp31
import Derived.Laws.StructEq
set_option linter.unusedSimpArgs false
set_option linter.unusedVariables false
set_option maxHeartbeats 2000000
set_option maxRecDepth 100000
namespace Go.Proofs.YtkmbnghghbfkdaaGreat
open Go.Lib (hid)

section
open Go.RowKit Go.Shelf Go.Sort
attribute [local go_sem] Oper.semAt_some wide_fn wide_depth
def Bnds (w:World) (v:Value) (l:List Bnd):Prop:=Sl w v l.length (l.flatMap bndCells)
theorem Bnds.ext {w w':World} {v:Value} {l:List Bnd} (h:Bnds w v l) (hx:Ext w w'):Bnds w' v l:=Sl.ext h hx
theorem Bnds.shape {w:World} {v:Value} {l:List Bnd} (h:Bnds w v l):∃ a c,v = .slice a l.length c ∧ l.length ≤ c ∧ c ≤ 9223372036854775807:=Sl.shape h
theorem Bnds.at_ {w:World} {a:Option Addr} {n c:Nat} {l:List Bnd} (h:Bnds w (.slice a n c) l) {k:Nat} (hk:k < l.length):∃ b o,a = some ⟨b,o,none⟩ ∧
 w.cell? ⟨b,o + k * 6,none⟩ = some (.int .i64 l[k].kind) ∧ w.cell? ⟨b,o + k * 6 + 1,none⟩ = some (.int .i64 l[k].name) ∧ w.cell? ⟨b,o + k * 6 + 2,none⟩ = some (.int .i64 l[k].a.var) ∧
 w.cell? ⟨b,o + k * 6 + 3,none⟩ = some (.int .i64 l[k].a.id) ∧ w.cell? ⟨b,o + k * 6 + 4,none⟩ = some (.int .i64 l[k].b.var) ∧ w.cell? ⟨b,o + k * 6 + 5,none⟩ = some (.int .i64 l[k].b.id):=by
 obtain ⟨a',c',e,_,_,hc⟩:=id h
 simp only [Value.slice.injEq] at e
 obtain ⟨rfl,_,rfl⟩:=e
 have hlen:=flatMap_len bndCells 6 (fun _=>rfl) l
 obtain ⟨b,o,rfl,hcell⟩:=hc (by omega)
 have hh:=fun j (hj:j < 6)=>flatMap_at bndCells 6 (fun _=>rfl) l k j hk hj
 exact ⟨b,o,rfl,hcell _ _ (hh 0 (by omega)),by rw [Nat.add_assoc];exact hcell _ _ (hh 1 (by omega)),by rw [Nat.add_assoc];exact hcell _ _ (hh 2 (by omega)),by rw [Nat.add_assoc];exact hcell _ _ (hh 3 (by omega)),by rw [Nat.add_assoc];exact hcell _ _ (hh 4 (by omega)),by rw [Nat.add_assoc];exact hcell _ _ (hh 5 (by omega))⟩
def Bnd.eqB (x y:Bnd):Bool:=(x.kind == y.kind && x.name == y.name) && ((x.a.var == y.a.var && x.a.id == y.a.id) && (x.b.var == y.b.var && x.b.id == y.b.id))
theorem Bnd.eqB_dec (x y:Bnd):x.eqB y = decide (x = y):=by
 obtain ⟨a,b,⟨c,d⟩,⟨e,f⟩⟩:=x
 obtain ⟨a',b',⟨c',d'⟩,⟨e',f'⟩⟩:=y
 rw [Bool.eq_iff_iff]
 unfold Bnd.eqB
 simp [and_assoc]
theorem bnd_eql (x y:Bnd) (w:World):(Op.equalIn 10000 75 (bndV x) (bndV y)).run Tryz.prog w = .ok (x.eqB y) w:=by
 unfold Bnd.eqB bndV bndCells
 rw [show (10000:Nat) = 9999 + 1 from rfl,run_equalIn_struct (P:=Tryz.prog) w 9999 75 _ _ (by kernel_rfl) (by kernel_rfl)]
 have hf:(Tryz.prog.fieldsOf 75).toList = _:=congrArg Array.toList (show Tryz.prog.fieldsOf 75 = _ by unfold Program.fieldsOf;rw [Tryz.underlying75])
 have hf2:(Tryz.prog.fieldsOf 71).toList = _:=congrArg Array.toList (show Tryz.prog.fieldsOf 71 = _ by unfold Program.fieldsOf;rw [Tryz.underlying71])
 have hf3:(Tryz.prog.fieldsOf 73).toList = _:=congrArg Array.toList (show Tryz.prog.fieldsOf 73 = _ by unfold Program.fieldsOf;rw [Tryz.underlying73])
 rw [hf]
 simp [Op.eqFields,go_sem,run_equalIn_int,run_equalIn_string]
 by_cases h1:x.kind = y.kind
 case neg=>simp [h1]
 by_cases h2:x.name = y.name
 case neg=>simp [h1,h2]
 by_cases h3:x.a.var = y.a.var
 case neg=>simp [h1,h2,h3]
 by_cases h4:x.a.id = y.a.id
 case neg=>simp [h1,h2,h3,h4]
 by_cases h5:x.b.var = y.b.var
 case neg=>simp [h1,h2,h3,h4,h5]
 by_cases h6:x.b.id = y.b.id <;> simp [h1,h2,h3,h4,h5,h6]
theorem bnd_neqB (x y:Bnd) (w:World):(binOp .neq 75 (bndV x) (bndV y)).run Tryz.prog w = .ok (.bool (!decide (x = y))) w:=by
 rw [← Bnd.eqB_dec]
 have h:=bnd_eql x y w
 unfold bndV at h ⊢
 rw [run_neq_struct,h];rfl
theorem eqBnds_any (v u:Value) (l m:List Bnd) (w:World) (hv:Bnds w v l) (hu:Bnds w u m) (hl:l.length ≤ 1000000000) (hm:m.length ≤ 1000000000) :
 Calls Tryz.prog 59 #[v,u] w fun e w'=>e = .returned (.bool (decide (l = m))) ∧ Ext w w':=by
 obtain ⟨a,c,rfl,hc1,hc2⟩:=hv.shape
 obtain ⟨a',c',rfl,hc1',hc2'⟩:=hu.shape
 have HV:=hid hv
 have HU:=hid hu
 clear hv hu
 by_cases hlen:l.length = m.length
 ·have hne:((l.length:Int) != (m.length:Int)) = false:=by simp [hlen]
  have Hlen:=hid hlen
  clear hlen
  go_enter Tryz.func59,Tryz.ntmps59
  go_wp2_with fail
  go_loopg [13] l.length (fun g i wr=>∃ k:Nat,k ≤ l.length ∧ g = l.length - k ∧ i = .int .i64 k ∧ Ext w wr ∧ Hid (l.take k = m.take k))
  case atStart=>exact ⟨0,Nat.zero_le _,rfl,rfl,Ext.refl _,hid rfl⟩
  case round =>
   obtain ⟨k,hk,hg,rfl,hx,heq⟩:=hrel
   have Hg:=hid hg
   have HX:=hid hx
   clear hg
   by_cases hlt:k < l.length
   ·have hltm:k < m.length:=by have:=Hlen.out;omega
    obtain ⟨b,o,rfl,c0,c1,c2,c3,c4,c5⟩:=(HV.out.ext hx).at_ hlt
    obtain ⟨b',o',rfl,d0,d1,d2,d3,d4,d5⟩:=(HU.out.ext hx).at_ hltm
    have e1:l.take (k + 1) = l.take k ++ [l[k]]:=List.take_succ_eq_append_getElem hlt
    have e2:m.take (k + 1) = m.take k ++ [m[k]]:=List.take_succ_eq_append_getElem hltm
    generalize l[k] = x at e1 c0 c1 c2 c3 c4 c5
    generalize m[k] = y at e2 d0 d1 d2 d3 d4 d5
    have E1:=hid e1
    have E2:=hid e2
    have hq:=fun w=>bnd_neqB x y w
    obtain ⟨B,hB⟩:∃ B,decide (x = y) = B:=⟨_,rfl⟩
    rw [hB] at hq
    have HB:=hid hB
    unfold bndV bndCells at hq
    clear e1 e2 hB hx
    cases B with
    | true =>
     go_wp2_with fail
     go_quiet (fail)
     clear c0 c1 c2 c3 c4 c5 d0 d1 d2 d3 d4 d5 hq
     go_wp2_with fail
     go_roundg (l.length - (k + 1))
     case measure=>have:=Hg.out;omega
     case rel=>exact ⟨k + 1,by omega,rfl,by go_num,HX.out.trans (Ext.drewN _ _),hid (by rw [E1.out,E2.out,heq.out,of_decide_eq_true HB.out])⟩
    | false =>
     have HNE:Hid (l ≠ m):=hid (fun h=>by
      have h1:=E1.out
      have h2:=E2.out
      rw [h,h2] at h1
      have:=List.append_cancel_left h1
      simp only [List.cons.injEq,and_true] at this
      exact of_decide_eq_false HB.out this.symm)
     go_wp2_with fail
     go_quiet (fail)
     clear c0 c1 c2 c3 c4 c5 d0 d1 d2 d3 d4 d5 hq
     go_wp2_with fail
     go_ret
     exact ⟨ret_bool (decide_eq_false HNE.out).symm,HX.out.trans (Ext.drewN _ _)⟩
   ·have he:k = l.length:=by omega
    have HEQ:Hid (l = m):=hid (by
     have h:=heq.out
     rw [he,List.take_length,Hlen.out,List.take_length] at h
     exact h)
    clear he
    go_wp2_with fail
    go_ret
    exact ⟨ret_bool (decide_eq_true HEQ.out).symm,HX.out⟩
 ·have hne:((l.length:Int) != (m.length:Int)) = true:=by simp;omega
  have HNE:Hid (l ≠ m):=hid (fun h=>hlen (by rw [h]))
  clear hlen
  go_enter Tryz.func59,Tryz.ntmps59
  go_wp2_with fail
  go_ret
  exact ⟨ret_bool (decide_eq_false HNE.out).symm,Ext.refl _⟩
theorem ints_cells {w:World} {b o n c:Nat} {l:List Int} (h:Ints w .i64 (.slice (some ⟨b,o,none⟩) n c) l):∀ j,j < l.length → w.cell? ⟨b,o + j,none⟩ = some (.int .i64 (l.getD j 0)):=fun j hj=>by
 obtain ⟨a',c',e,_,_,hc⟩:=id h
 obtain ⟨b',o',e2,hcell⟩:=hc (by rw [List.length_map];omega)
 subst e2
 cases e
 rw [hcell j (.int .i64 l[j]) (by simp [hj]),List.getD_eq_getElem?_getD,List.getElem?_eq_getElem hj]
 rfl
theorem Ints.shape {w:World} {k:IntKind} {v:Value} {l:List Int} (h:Ints w k v l):∃ a c,v = .slice a l.length c ∧ l.length ≤ c ∧ c ≤ 9223372036854775807:=Sl.shape h
theorem ints_some {w:World} {k:IntKind} {a:Option Addr} {n c:Nat} {l:List Int} (h:Ints w k (.slice a n c) l) (hl:0 < l.length):∃ b o,a = some ⟨b,o,none⟩:=by
 obtain ⟨a',c',e,_,_,hc⟩:=id h
 cases e
 obtain ⟨b',o',e2,_⟩:=hc (by rw [List.length_map];omega)
 exact ⟨b',o',e2⟩
theorem eqInts_any (v u:Value) (T S:List Int) (w:World) (hT:Ints w .i64 v T) (hS:Ints w .i64 u S) :
 Calls Tryz.prog 34 #[v,u] w fun e w'=>e = .returned (.bool (decide (T = S))) ∧ Ext w w':=by
 obtain ⟨a,c,rfl,hc1,hc2⟩:=Ints.shape hT
 obtain ⟨a',c',rfl,hd1,hd2⟩:=Ints.shape hS
 by_cases hl:T.length = S.length
 ·by_cases h0:T = []
  ·subst h0
   have hS0:S = []:=List.eq_nil_of_length_eq_zero (by simpa using hl.symm)
   subst hS0
   exact (Tryz.slices_Equal_int_empty a a' c 0 c' w (by omega)).mono fun e w' h=>⟨h.1,by rw [h.2];exact Ext.refl _⟩
  ·have hp:=List.length_pos_iff.2 h0
   obtain ⟨b,o,rfl⟩:=ints_some hT hp
   obtain ⟨b',o',rfl⟩:=ints_some hS (by omega:0 < S.length)
   refine (Tryz.slices_Equal_int b o T.length c b' o' S.length c' T S w (Nat.le_refl _) (Nat.le_refl _) (by omega) (by omega) (ints_cells hT) (ints_cells hS)).mono fun e w' h=>⟨?_,?_⟩
   ·rw [h.1,List.take_length,List.take_length,show (T == S) = decide (T = S) from by rw [Bool.eq_iff_iff];simp]
   ·obtain ⟨q,rfl⟩:=h.2
    exact Ext.drewN w q
 ·refine (Tryz.slices_Equal_int_lens a a' T.length c S.length c' w hl).mono fun e w' h=>⟨?_,by rw [h.2];exact Ext.refl _⟩
  rw [h.1,decide_eq_false (fun e=>hl (by rw [e]))]
def GolAt (w:World) (v:Value) (G:Gol):Prop:=∃ vv av rv hv,v = golV vv av rv hv G ∧ Strs w vv G.vars ∧ Bnds w av G.atoms ∧ Ints w .i64 rv G.ret ∧ Ints w .i64 hv G.hint
theorem GolAt.ext {w w':World} {v:Value} {G:Gol} (h:GolAt w v G) (hx:Ext w w'):GolAt w' v G:=by
 obtain ⟨vv,av,rv,hv,e,h1,h2,h3,h4⟩:=h
 exact ⟨vv,av,rv,hv,e,Strs.ext h1 hx,h2.ext hx,h3.ext hx,h4.ext hx⟩
theorem GolIn.at_ {B:Nat} {w:World} {v:Value} {G:Gol} (h:GolIn B w v G):GolAt w v G:=by
 obtain ⟨vv,av,rv,hv,e,h1,h2,h3,h4⟩:=h
 exact ⟨vv,av,rv,hv,e,Sl.of_own h1,Sl.of_own h2,by have:=Sl.of_own h3;exact this,by have:=Sl.of_own h4;exact this⟩
theorem row9_facts {w:World} {g:Nat} {t:TypeId} {x0 x1 x2 x3 x4 x5 x6 x7 x8:Value} (h:RowAt w g t [x0,x1,x2,x3,x4,x5,x6,x7,x8]):w.cell? ⟨g,0,none⟩ = some x0 ∧ w.cell? ⟨g,1,none⟩ = some x1 ∧ w.cell? ⟨g,2,none⟩ = some x2 ∧ w.cell? ⟨g,3,none⟩ = some x3 ∧ w.cell? ⟨g,4,none⟩ = some x4 ∧ w.cell? ⟨g,5,none⟩ = some x5 ∧ w.cell? ⟨g,6,none⟩ = some x6 ∧ w.cell? ⟨g,7,none⟩ = some x7 ∧ w.cell? ⟨g,8,none⟩ = some x8 :=
 ⟨h.cell (i:=0) rfl,h.cell (i:=1) rfl,h.cell (i:=2) rfl,h.cell (i:=3) rfl,h.cell (i:=4) rfl,h.cell (i:=5) rfl,h.cell (i:=6) rfl,h.cell (i:=7) rfl,h.cell (i:=8) rfl⟩
def sameG (G H:Gol):Bool:=(G.count == H.count && (G.distinct == H.distinct && (G.limited == H.limited && (G.limit == H.limit && G.offset == H.offset)))) && (decide (G.vars = H.vars) && (decide (G.atoms = H.atoms) && (decide (G.ret = H.ret) && decide (G.hint = H.hint))))
theorem sameG_dec (G H:Gol):sameG G H = decide (G = H):=by
 obtain ⟨a,b,c,d,e,f,g,h,i⟩:=G
 obtain ⟨a',b',c',d',e',f',g',h',i'⟩:=H
 rw [Bool.eq_iff_iff]
 unfold sameG
 simp only [decide_eq_true_eq,Bool.and_eq_true,beq_iff_eq,Gol.mk.injEq]
 constructor
 ·rintro ⟨⟨h3,h4,h5,h6,h7⟩,h1,h2,h8,h9⟩
  exact ⟨h1,h2,h8,h3,h4,h5,h6,h7,h9⟩
 ·rintro ⟨h1,h2,h8,h3,h4,h5,h6,h7,h9⟩
  exact ⟨⟨h3,h4,h5,h6,h7⟩,h1,h2,h8,h9⟩
theorem boxes2 (w:World) (xs:List Value) (t:TypeId) (ys:List Value) (u:TypeId) :
 Ext w ((w.alloc (.cells xs.toArray t)).alloc (.cells ys.toArray u)) ∧ RowAt ((w.alloc (.cells xs.toArray t)).alloc (.cells ys.toArray u)) w.heap.size t xs ∧ RowAt ((w.alloc (.cells xs.toArray t)).alloc (.cells ys.toArray u)) (w.heap.size + 1) u ys :=
 ⟨(Ext.alloc _ _).trans (Ext.alloc _ _),(RowAt.new _ _ _).ext (Ext.alloc _ _),row_at (by simp)⟩
set_option maxHeartbeats 4000000 in
theorem sameG_any (v u:Value) (G H:Gol) (w:World) (h:GolAt w v G) (k:GolAt w u H) (hf:G.atoms.length ≤ 1000000000) (hf2:H.atoms.length ≤ 1000000000) :
 Calls Tryz.prog 19 #[v,u] w fun e w'=>e = .returned (.bool (decide (G = H))) ∧ Ext w w':=by
 rw [← sameG_dec]
 obtain ⟨vv,av,rv,hv,rfl,h0,ha,hr,hh⟩:=h
 obtain ⟨vu,au,ru,hu,rfl,k0,ka,kr,kh⟩:=k
 obtain ⟨va,vc,rfl,_,_⟩:=Sl.shape h0
 obtain ⟨aa,ac,rfl,_,_⟩:=ha.shape
 obtain ⟨ra,rc,rfl,_,_⟩:=hr.shape
 obtain ⟨ha',hc,rfl,_,_⟩:=hh.shape
 obtain ⟨va2,vc2,rfl,_,_⟩:=Sl.shape k0
 obtain ⟨aa2,ac2,rfl,_,_⟩:=ka.shape
 obtain ⟨ra2,rc2,rfl,_,_⟩:=kr.shape
 obtain ⟨ha2,hc2,rfl,_,_⟩:=kh.shape
 unfold sameG
 obtain ⟨vars,atoms,ret,cn,ds,lm,li,off,hint⟩:=G
 obtain ⟨vars2,atoms2,ret2,cn2,ds2,lm2,li2,off2,hint2⟩:=H
 unfold golV golC
 dsimp only at *
 have HV:=hid (fun w' (hx:Ext w w')=>eqStrs_any _ _ vars vars2 w' (Strs.ext h0 hx) (Strs.ext k0 hx))
 have HA:=hid (fun w' (hx:Ext w w')=>eqBnds_any _ _ atoms atoms2 w' (ha.ext hx) (ka.ext hx) hf hf2)
 have HR:=hid (fun w' (hx:Ext w w')=>eqInts_any _ _ ret ret2 w' (hr.ext hx) (kr.ext hx))
 have HH:=hid (fun w' (hx:Ext w w')=>eqInts_any _ _ hint hint2 w' (hh.ext hx) (kh.ext hx))
 obtain ⟨b1,q1⟩:∃ b,(cn == cn2) = b:=⟨_,rfl⟩
 obtain ⟨b2,q2⟩:∃ b,(ds == ds2) = b:=⟨_,rfl⟩
 obtain ⟨b3,q3⟩:∃ b,(lm == lm2) = b:=⟨_,rfl⟩
 obtain ⟨b4,q4⟩:∃ b,(li == li2) = b:=⟨_,rfl⟩
 obtain ⟨b5,q5⟩:∃ b,(off == off2) = b:=⟨_,rfl⟩
 obtain ⟨c0,p0⟩:∃ b,decide (vars = vars2) = b:=⟨_,rfl⟩
 obtain ⟨c1,p1⟩:∃ b,decide (atoms = atoms2) = b:=⟨_,rfl⟩
 obtain ⟨c2,p2⟩:∃ b,decide (ret = ret2) = b:=⟨_,rfl⟩
 obtain ⟨c3,p3⟩:∃ b,decide (hint = hint2) = b:=⟨_,rfl⟩
 rw [q1,q2,q3,q4,q5,p0,p1,p2,p3]
 obtain ⟨F,hF⟩:∃ F,(b1 && (b2 && (b3 && (b4 && b5)))) = F:=⟨_,rfl⟩
 obtain ⟨RS,hRS⟩:∃ R,(F && (c0 && (c1 && (c2 && c3)))) = R:=⟨_,rfl⟩
 rw [hF,hRS]
 have HFF:=hid hF
 have HRS:=hid hRS
 clear hF hRS
 rw [p0] at HV
 rw [p1] at HA
 rw [p2] at HR
 rw [p3] at HH
 have hbx:=boxes2 w [.slice va vars.length vc,.slice aa atoms.length ac,.slice ra ret.length rc,.bool cn,.bool ds,.bool lm,.int .i64 li,.int .i64 off,.slice ha' hint.length hc] 39 [.slice va2 vars2.length vc2,.slice aa2 atoms2.length ac2,.slice ra2 ret2.length rc2,.bool cn2,.bool ds2,.bool lm2,.int .i64 li2,.int .i64 off2,.slice ha2 hint2.length hc2] 39
 have HX:=hid hbx.1
 have HB:=hid hbx.2.1
 have HB2:=hid hbx.2.2
 clear hbx h0 ha hr hh k0 ka kr kh p0 p1 p2 p3
 go_enter Tryz.func19,Tryz.ntmps19
 go_upto_region 1 with fail
 generalize (w.alloc (.cells #[.slice va vars.length vc,.slice aa atoms.length ac,.slice ra ret.length rc,.bool cn,.bool ds,.bool lm,.int .i64 li,.int .i64 off,.slice ha' hint.length hc] 39)).alloc (.cells #[.slice va2 vars2.length vc2,.slice aa2 atoms2.length ac2,.slice ra2 ret2.length rc2,.bool cn2,.bool ds2,.bool lm2,.int .i64 li2,.int .i64 off2,.slice ha2 hint2.length hc2] 39) = w1 at *
 obtain ⟨x,hx⟩:∃ x,w.heap.size = x:=⟨_,rfl⟩
 obtain ⟨y,hy⟩:∃ y,x + 1 = y:=⟨_,rfl⟩
 rw [hx] at HB HB2
 rw [hy] at HB2
 simp only [hx,hy]
 clear hx hy
 obtain ⟨d0,d1,d2,d3,d4,d5,d6,d7,d8⟩:=row9_facts HB.out
 obtain ⟨e0,e1,e2,e3,e4,e5,e6,e7,e8⟩:=row9_facts HB2.out
 go_cut [5] (fun s5 wx=>s5 = .bool F ∧ wx = w1)
 case first =>
  cases b1
  case false =>
   go_wp2_with fail
   go_meet
   exact ⟨by rw [← HFF.out];rfl,rfl⟩
  cases b2
  case false =>
   go_wp2_with fail
   go_meet
   exact ⟨by rw [← HFF.out];rfl,rfl⟩
  cases b3
  case false =>
   go_wp2_with fail
   go_meet
   exact ⟨by rw [← HFF.out];rfl,rfl⟩
  cases b4
  all_goals
   go_wp2_with fail
   go_meet
   exact ⟨by rw [← HFF.out];rfl,rfl⟩
 case rest =>
  obtain ⟨rfl,hwc⟩:=hcut
  rw [hwc]
  clear hwc q1 q2 q3 q4 q5
  clear HFF
  have HV1:=hid (HV.out w1 HX.out)
  clear HV
  cases F with
  | false =>
   go_wp2_with fail
   go_ret
   exact ⟨ret_bool HRS.out,HX.out⟩
  | true =>
   go_wp2_with fail
   refine HV1.out.mono ?_
   rintro e w2 ⟨rfl,hx2⟩
   have HX2:=hid (HX.out.trans hx2)
   have HA2:=hid (HA.out w2 HX2.out)
   have HB3:=hid (HB.out.ext hx2)
   have HB4:=hid (HB2.out.ext hx2)
   clear d0 d1 d2 d3 d4 d5 d6 d7 d8 e0 e1 e2 e3 e4 e5 e6 e7 e8 HV1 HA hx2 HB HB2
   obtain ⟨d0,d1,d2,d3,d4,d5,d6,d7,d8⟩:=row9_facts HB3.out
   obtain ⟨e0,e1,e2,e3,e4,e5,e6,e7,e8⟩:=row9_facts HB4.out
   cases c0 with
   | false =>
    go_wp2_with fail
    go_ret
    exact ⟨ret_bool HRS.out,HX2.out⟩
   | true =>
    go_wp2_with fail
    refine HA2.out.mono ?_
    rintro e w3 ⟨rfl,hx3⟩
    have HX3:=hid (HX2.out.trans hx3)
    have HR3:=hid (HR.out w3 HX3.out)
    have HB5:=hid (HB3.out.ext hx3)
    have HB6:=hid (HB4.out.ext hx3)
    clear d0 d1 d2 d3 d4 d5 d6 d7 d8 e0 e1 e2 e3 e4 e5 e6 e7 e8 HA2 HR hx3 HB3 HB4
    obtain ⟨d0,d1,d2,d3,d4,d5,d6,d7,d8⟩:=row9_facts HB5.out
    obtain ⟨e0,e1,e2,e3,e4,e5,e6,e7,e8⟩:=row9_facts HB6.out
    cases c1 with
    | false =>
     go_wp2_with fail
     go_ret
     exact ⟨ret_bool HRS.out,HX3.out⟩
    | true =>
     go_wp2_with fail
     refine HR3.out.mono ?_
     rintro e w4 ⟨rfl,hx4⟩
     have HX4:=hid (HX3.out.trans hx4)
     have HH4:=hid (HH.out w4 HX4.out)
     have HB7:=hid (HB5.out.ext hx4)
     have HB8:=hid (HB6.out.ext hx4)
     clear d0 d1 d2 d3 d4 d5 d6 d7 d8 e0 e1 e2 e3 e4 e5 e6 e7 e8 HR3 HH hx4 HB5 HB6
     obtain ⟨d0,d1,d2,d3,d4,d5,d6,d7,d8⟩:=row9_facts HB7.out
     obtain ⟨e0,e1,e2,e3,e4,e5,e6,e7,e8⟩:=row9_facts HB8.out
     cases c2 with
     | false =>
      go_wp2_with fail
      go_ret
      exact ⟨ret_bool HRS.out,HX4.out⟩
     | true =>
      go_wp2_with fail
      refine HH4.out.mono ?_
      rintro e w5 ⟨rfl,hx5⟩
      have HX5:=hid (HX4.out.trans hx5)
      clear d0 d1 d2 d3 d4 d5 d6 d7 d8 e0 e1 e2 e3 e4 e5 e6 e7 e8 HH4 hx5
      go_wp2_with fail
      go_ret
      exact ⟨ret_bool HRS.out,HX5.out⟩
end

/- The texts at places. -/
section
open Go.RowKit Go.Shelf Go.Sort
attribute [local go_sem] Oper.semAt_some wide_fn wide_depth
theorem Ints.at_ {w:World} {a:Option Addr} {n c:Nat} {l:List Int} (h:Ints w .i64 (.slice a n c) l) {k:Nat} (hk:k < l.length):∃ b o,a = some ⟨b,o,none⟩ ∧ w.cell? ⟨b,o + k,none⟩ = some (.int .i64 l[k]):=by
 obtain ⟨b,o,rfl⟩:=ints_some h (by omega)
 refine ⟨b,o,rfl,?_⟩
 rw [ints_cells h k hk,List.getD_eq_getElem?_getD,List.getElem?_eq_getElem hk]
 rfl
def TextsQ (w:World) (r:Option (List ByteArray)) (e:Ending) (w':World):Prop:=Ext w w' ∧ match r with
 | some T=>∃ a c,e = .returned (.slice a T.length c) ∧ w'.ownsRow w.heap.size 9 1 (.slice a T.length c) T.length (T.map Value.string)
 | none=>e = unknE
set_option maxHeartbeats 4000000 in
theorem texts_any (vs:Nat → Value × Value) (m:Nat) (a0:Option Addr) (c:Nat) (V:List ByteArray) (l:List Int) (v:Value) (w:World) (hA:Strs w (.slice a0 V.length c) V) (hl:Ints w .i64 v l) (hll:l.length ≤ 1000000) (hvl:V.length ≤ 1000000) :
 Calls Tryz.prog 62 #[nmV vs m (.slice a0 V.length c),v] w (TextsQ w (textsO V l)):=by
 obtain ⟨la,lc,rfl,_,_⟩:=hl.shape
 have hx0:=Ext.alloc w (.cells (nmL vs m (.slice a0 V.length c)).toArray 98)
 have hb0:=RowAt.new w 98 (nmL vs m (.slice a0 V.length c))
 have HX:=hid hx0
 have HB:=hid hb0
 have HA:=hid hA
 have HL:=hid hl
 have HLL:=hid hll
 have HVL:=hid hvl
 unfold textsO
 obtain ⟨R,hR⟩:∃ R,(if (preF (textO V) l).2 = true then some (preF (textO V) l).1 else none) = R:=⟨_,rfl⟩
 rw [hR]
 have HR1:Hid (∀ T,preF (textO V) l = (T,true) → R = some T):=hid (fun T h=>by rw [← hR,h];rfl)
 have HR2:Hid (∀ T,preF (textO V) l = (T,false) → R = none):=hid (fun T h=>by rw [← hR,h];rfl)
 clear hx0 hb0 hA hl hR hll hvl
 unfold nmV
 go_enter Tryz.func62,Tryz.ntmps62
 go_upto_region 1 with fail
 generalize w.alloc (.cells (nmL vs m (.slice a0 V.length c)).toArray 98) = w1 at *
 obtain ⟨y,hy⟩:∃ y,w.heap.size = y:=⟨_,rfl⟩
 rw [hy] at HB
 simp only [hy]
 clear hy
 go_wp2_with fail
 go_loopg [5,10] l.length (fun g out i wr=>∃ (k:Nat) (T:List ByteArray) (oa:Option Addr) (oc:Nat),k ≤ l.length ∧ g = l.length - k ∧ i = .int .i64 k ∧ out = .slice oa k oc ∧ Hid (PreI (textO V) l k T) ∧ Hid (Ext w wr) ∧ Hid (RowAt wr y 98 (nmL vs m (.slice a0 V.length c))) ∧ Hid (wr.ownsRow w.heap.size 9 1 (.slice oa k oc) k (T.map Value.string)))
 case atStart=>exact ⟨0,[],none,0,Nat.zero_le _,rfl,rfl,rfl,hid (PreI.start _ _),HX,HB,hid (World.ownsRow_nil _ _ _ _)⟩
 case round =>
  obtain ⟨k,T,oa,oc,hk,hg,rfl,rfl,HI,HXR,HBR,HO⟩:=hrel
  have Hg:=hid hg
  clear hg
  by_cases hlt:k < l.length
  ·obtain ⟨b,o,rfl,c0⟩:=(HL.out.ext HXR.out).at_ hlt
   have hsm:=fun s (h:textO V l[k] = some s)=>HI.out.some hlt h
   have hno:=fun (h:textO V l[k] = none)=>HI.out.none hlt h
   obtain ⟨n0,n1⟩:=nm_map HBR.out
   generalize l[k] = q at *
   have HSM:=hid hsm
   have HNO:=hid hno
   have hk6:k ≤ 1000000:=by have:=HLL.out;omega
   clear hsm hno
   by_cases hok:0 ≤ q ∧ q < V.length
   ·obtain ⟨h1,h2⟩:=hok
    obtain ⟨j,rfl⟩:∃ j:Nat,q = j:=⟨q.toNat,by omega⟩
    have hjl:j < V.length:=by omega
    have hto:textO V j = some V[j]:=by
     unfold textO
     rw [if_pos ⟨h1,h2⟩,Int.toNat_natCast,List.getD_eq_getElem?_getD,List.getElem?_eq_getElem hjl];rfl
    obtain ⟨b2,o2,rfl,e0⟩:=(Strs.ext HA.out HXR.out).at_ hjl
    have HS:=hid (HSM.out _ hto)
    generalize V[j] = s at *
    clear h1 h2 hto HSM HNO
    go_wp2_with fail
    refine (need_yes _).mono ?_
    rintro e w3 ⟨rfl,rfl⟩
    go_wp2_with (at_builtin;refine wpList_append_sl _ rfl _ _ 22 rfl elStr rfl (own_ext HO.out (Ext.alloc _ _)) rfl (Sl.new _ #[.string s] 9 1 1 (Nat.le_refl _) ?_) rfl ?_ ?_ ?_ ?_ ?_)
    ·unfold maxLen;omega
    ·rfl
    ·omega
    ·unfold maxLen;omega
    ·have:=HXR.out.size;simp;omega
    intro v' w6 how6 hb6 hg6 _
    obtain ⟨va,vc,rfl⟩:=own_vw how6
    have HX6:=hid (show Ext w w6 from Below.trans (HXR.out.trans (Ext.alloc _ _)) hb6)
    have HB6:=hid ((HBR.out.ext (Ext.alloc _ _)).kept hg6 (fun e=>own_ne_row HO.out HBR.out (by decide) _ e rfl))
    have HO6:=hid (show w6.ownsRow w.heap.size 9 1 (.slice va (k + 1) vc) (k + 1) ((T ++ [s]).map Value.string) by rw [List.map_append];exact how6)
    clear how6 hb6 hg6 c0 n0 n1 e0 HXR HBR HO
    go_wp2_with fail
    go_roundg (l.length - (k + 1))
    case measure=>have:=Hg.out;omega
    case rel=>exact ⟨k + 1,T ++ [s],va,vc,by omega,rfl,by first | rfl | go_num,rfl,HS,HX6,HB6,HO6⟩
   ·have hto:textO V q = none:=by unfold textO;rw [if_neg hok]
    have HRN:=hid (HR2.out _ (HNO.out hto))
    obtain ⟨b1,hb1⟩:∃ b,decide (0 ≤ q) = b:=⟨_,rfl⟩
    obtain ⟨b2,hb2⟩:∃ b,decide (q < (V.length:Int)) = b:=⟨_,rfl⟩
    have HN2:Hid (¬ (b1 = true ∧ b2 = true)):=hid (by
     rintro ⟨rfl,rfl⟩
     exact hok ⟨of_decide_eq_true hb1,of_decide_eq_true hb2⟩)
    clear hok hto HSM HNO
    cases b1
    case false =>
     go_wp2_with fail
     refine (need_no _).mono ?_
     rintro e w3 ⟨rfl,rfl⟩
     unfold unknE
     dsimp only
     go_wp2_with fail
     exact ⟨rfl,HXR.out,by rw [HRN.out];rfl⟩
    case true =>
     cases b2
     case true=>exact absurd ⟨rfl,rfl⟩ HN2.out
     case false =>
      go_wp2_with fail
      refine (need_no _).mono ?_
      rintro e w3 ⟨rfl,rfl⟩
      unfold unknE
      dsimp only
      go_wp2_with fail
      exact ⟨rfl,HXR.out,by rw [HRN.out];rfl⟩
  ·have he:k = l.length:=by omega
   subst he
   have HRS:=hid (HR1.out _ HI.out.done)
   have HTL:=hid HI.out.2
   go_wp2_with fail
   go_ret
   refine ⟨HXR.out,?_⟩
   rw [HRS.out]
   exact ⟨oa,oc,by rw [HTL.out];rfl,by rw [HTL.out];exact HO.out⟩
end

end Go.Proofs.YtkmbnghghbfkdaaGreat
