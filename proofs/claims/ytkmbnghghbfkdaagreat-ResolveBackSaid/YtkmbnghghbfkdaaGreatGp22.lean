/- The document: the same texts, the same patterns. -/
import Derived.Test.YtkmbnghghbfkdaaGreatGp20
import Derived.Test.YtkmbnghghbfkdaaGreatGp19
import Derived.Test.YtkmbnghghbfkdaaGreatGp12
import Derived.Test.YtkmbnghghbfkdaaGreatGp09
import Derived.Test.YtkmbnghghbfkdaaGreatGp16
import Derived.Test.YtkmbnghghbfkdaaGreatGp02
set_option linter.unusedSimpArgs false
set_option linter.unusedVariables false
set_option maxHeartbeats 2000000
set_option maxRecDepth 100000
namespace Go.Proofs.YtkmbnghghbfkdaaGreat
open Go.Lib (hid)

section
open Go.RowKit Go.Shelf Go.Sort
attribute [local go_sem] Oper.semAt_some wide_fn wide_depth
theorem sameTexts_any (v u:Value) (l m:List ByteArray) (w:World) (hv:Strs w v l) (hu:Strs w u m) :
 Calls Tryz.prog 55 #[v,u] w fun e w'=>e = .returned (.bool (decide (l = m))) ∧ Ext w w':=by
 obtain ⟨a,c,rfl,hc1,hc2⟩:=Sl.shape hv
 obtain ⟨a',c',rfl,hc1',hc2'⟩:=Sl.shape hu
 have HV:=hid hv
 have HU:=hid hu
 clear hv hu
 by_cases hlen:l.length = m.length
 ·have hne:((l.length:Int) != (m.length:Int)) = false:=by simp [hlen]
  have Hlen:=hid hlen
  clear hlen
  go_enter Tryz.func55,Tryz.ntmps55
  go_wp2_with fail
  go_loopg [14] l.length (fun g i wr=>∃ k:Nat,k ≤ l.length ∧ g = l.length - k ∧ i = .int .i64 k ∧ Ext w wr ∧ Hid (l.take k = m.take k))
  case atStart=>exact ⟨0,Nat.zero_le _,rfl,rfl,Ext.refl _,hid rfl⟩
  case round =>
   obtain ⟨k,hk,hg,rfl,hx,heq⟩:=hrel
   have Hg:=hid hg
   have HX:=hid hx
   clear hg
   by_cases hlt:k < l.length
   ·have hltm:k < m.length:=by have:=Hlen.out;omega
    obtain ⟨b,o,rfl,c0⟩:=Strs.at_ (Strs.ext HV.out hx) hlt
    obtain ⟨b',o',rfl,d0⟩:=Strs.at_ (Strs.ext HU.out hx) hltm
    have e1:l.take (k + 1) = l.take k ++ [l[k]]:=List.take_succ_eq_append_getElem hlt
    have e2:m.take (k + 1) = m.take k ++ [m[k]]:=List.take_succ_eq_append_getElem hltm
    generalize l[k] = x at e1 c0
    generalize m[k] = y at e2 d0
    have E1:=hid e1
    have E2:=hid e2
    clear e1 e2 hx
    by_cases hxy:x = y
    ·have hb1:(x.toList != y.toList) = false:=by rw [hxy];simp
     have hb2:(x.toList == y.toList) = true:=by rw [hxy];simp
     have HXY:=hid hxy
     clear hxy
     go_wp2_with fail
     go_roundg (l.length - (k + 1))
     case measure=>have:=Hg.out;omega
     case rel=>exact ⟨k + 1,by omega,rfl,by go_num,HX.out,hid (by rw [E1.out,E2.out,heq.out,HXY.out])⟩
    ·have hb2:(x.toList == y.toList) = false:=str_no hxy
     have hb1:(x.toList != y.toList) = true:=by unfold bne;rw [hb2];rfl
     have HNE:Hid (l ≠ m):=hid (fun h=>by
      have h1:=E1.out
      have h2:=E2.out
      rw [h,h2] at h1
      have:=List.append_cancel_left h1
      simp only [List.cons.injEq,and_true] at this
      exact hxy this.symm)
     clear hxy
     go_wp2_with fail
     go_ret
     exact ⟨ret_bool (decide_eq_false HNE.out).symm,HX.out⟩
   ·have he:k = l.length:=by omega
    have HEQ:Hid (l = m):=hid (by
     have h:=heq.out
     rw [he,List.take_length,Hlen.out,List.take_length] at h
     exact h)
    clear he
    go_wp2_with fail
    go_ret
    exact ⟨ret_bool (decide_eq_true HEQ.out).symm,HX.out⟩
 ·have hne:((l.length:Int) != (m.length:Int)) = true:=bne_iff_ne.2 (fun e=>hlen (by omega))
  have HNE:Hid (l ≠ m):=hid (fun h=>hlen (by rw [h]))
  clear hlen
  go_enter Tryz.func55,Tryz.ntmps55
  go_wp2_with fail
  go_ret
  exact ⟨ret_bool (decide_eq_false HNE.out).symm,Ext.refl _⟩
theorem same16_any (v u:Value) (P Q:Pat) (w:World) (h:PatAt w v P) (k:PatAt w u Q) (hf:P.atoms.length ≤ 1000000000) (hf2:Q.atoms.length ≤ 1000000000) :
 Calls Tryz.prog 17 #[v,u] w fun e w'=>e = .returned (.bool (sameB P Q)) ∧ Ext w w':=by
 obtain ⟨av,rv,hv,rfl,ha,hr,hh⟩:=h
 obtain ⟨au,ru,hu,rfl,ka,kr,kh⟩:=k
 obtain ⟨ava,avc,rfl,hac,_⟩:=ha.shape
 obtain ⟨rva,rvc,rfl,_,_⟩:=Sl.shape hr
 obtain ⟨hva,hvc,rfl,_,_⟩:=Sl.shape hh
 obtain ⟨aua,auc,rfl,_,_⟩:=ka.shape
 obtain ⟨rua,ruc,rfl,_,_⟩:=Sl.shape kr
 obtain ⟨hua,huc,rfl,_,_⟩:=Sl.shape kh
 unfold sameB
 obtain ⟨atoms,ret,cn,ds,lm,li,off,hint⟩:=P
 obtain ⟨atoms2,ret2,cn2,ds2,lm2,li2,off2,hint2⟩:=Q
 unfold patV patL
 dsimp only at *
 have HA:=hid (show Ats w (.slice ava atoms.length avc) atoms ∧ Ats w (.slice aua atoms2.length auc) atoms2 from ⟨ha,ka⟩)
 have HR:=hid (show ∀ w',Ext w w' → Calls Tryz.prog 55 #[.slice rva ret.length rvc,.slice rua ret2.length ruc] w' (fun e w''=>e = .returned (.bool (decide (ret = ret2))) ∧ Ext w' w'') from fun w' (hx:Ext w w')=>sameTexts_any _ _ ret ret2 w' (Strs.ext hr hx) (Strs.ext kr hx))
 have HH:=hid (show ∀ w',Ext w w' → Calls Tryz.prog 55 #[.slice hva hint.length hvc,.slice hua hint2.length huc] w' (fun e w''=>e = .returned (.bool (decide (hint = hint2))) ∧ Ext w' w'') from fun w' (hx:Ext w w')=>sameTexts_any _ _ hint hint2 w' (Strs.ext hh hx) (Strs.ext kh hx))
 obtain ⟨c1,p1⟩:∃ b,decide (atoms = atoms2) = b:=⟨_,rfl⟩
 obtain ⟨c2,p2⟩:∃ b,decide (ret = ret2) = b:=⟨_,rfl⟩
 obtain ⟨c3,p3⟩:∃ b,decide (hint = hint2) = b:=⟨_,rfl⟩
 rw [p1,p2,p3]
 obtain ⟨RS,hRS⟩:∃ R,((cn == cn2 && (ds == ds2 && (lm == lm2 && (li == li2 && off == off2)))) && (c1 && (c2 && c3))) = R:=⟨_,rfl⟩
 rw [hRS]
 have HRS:=hid hRS
 have HP1:=hid p1
 rw [p2] at HR
 rw [p3] at HH
 clear p1 p2 p3 hRS
 obtain ⟨lb,hlb⟩:∃ b,((atoms.length:Int) != (atoms2.length:Int)) = b:=⟨_,rfl⟩
 have HLB:=hid hlb
 have hx1:=Ext.alloc w (.cells #[.slice ava atoms.length avc,.slice rva ret.length rvc,.bool cn,.bool ds,.bool lm,.int .i64 li,.int .i64 off,.slice hva hint.length hvc] 35)
 have hx2:=Ext.alloc (w.alloc (.cells #[.slice ava atoms.length avc,.slice rva ret.length rvc,.bool cn,.bool ds,.bool lm,.int .i64 li,.int .i64 off,.slice hva hint.length hvc] 35)) (.cells #[.slice aua atoms2.length auc,.slice rua ret2.length ruc,.bool cn2,.bool ds2,.bool lm2,.int .i64 li2,.int .i64 off2,.slice hua hint2.length huc] 35)
 have hb1:=(RowAt.new w 35 [.slice ava atoms.length avc,.slice rva ret.length rvc,.bool cn,.bool ds,.bool lm,.int .i64 li,.int .i64 off,.slice hva hint.length hvc]).ext hx2
 have hb2:RowAt ((w.alloc (.cells #[.slice ava atoms.length avc,.slice rva ret.length rvc,.bool cn,.bool ds,.bool lm,.int .i64 li,.int .i64 off,.slice hva hint.length hvc] 35)).alloc (.cells #[.slice aua atoms2.length auc,.slice rua ret2.length ruc,.bool cn2,.bool ds2,.bool lm2,.int .i64 li2,.int .i64 off2,.slice hua hint2.length huc] 35)) (w.heap.size + 1) 35 [.slice aua atoms2.length auc,.slice rua ret2.length ruc,.bool cn2,.bool ds2,.bool lm2,.int .i64 li2,.int .i64 off2,.slice hua hint2.length huc]:=row_at (by simp)
 have HX:=hid (hx1.trans hx2)
 have HB:=hid hb1
 have HB2:=hid hb2
 clear hx1 hx2 hb1 hb2 ha hr hh ka kr kh
 go_enter Tryz.func17,Tryz.ntmps17
 go_upto_region 1 with fail
 generalize ((w.alloc (.cells #[.slice ava atoms.length avc,.slice rva ret.length rvc,.bool cn,.bool ds,.bool lm,.int .i64 li,.int .i64 off,.slice hva hint.length hvc] 35)).alloc (.cells #[.slice aua atoms2.length auc,.slice rua ret2.length ruc,.bool cn2,.bool ds2,.bool lm2,.int .i64 li2,.int .i64 off2,.slice hua hint2.length huc] 35)) = w1 at *
 obtain ⟨x,hx⟩:∃ x,w.heap.size = x:=⟨_,rfl⟩
 obtain ⟨y,hy⟩:∃ y,x + 1 = y:=⟨_,rfl⟩
 rw [hx] at HB HB2
 rw [hy] at HB2
 simp only [hx,hy]
 clear hx hy
 obtain ⟨d0,d1,d2,d3,d4,d5,d6,d7⟩:=row8_facts HB.out
 obtain ⟨e0,e1,e2,e3,e4,e5,e6,e7⟩:=row8_facts HB2.out
 cases lb
 case true =>
  have HN:Hid (RS = false):=hid (by
   have h1:=HP1.out
   rw [decide_eq_false (fun e=>by rw [e] at hlb;simp at hlb)] at h1
   rw [← HRS.out,← h1];simp)
  go_wp2_with fail
  go_ret
  exact ⟨ret_bool HN.out.symm,HX.out⟩
 case false =>
  have HLE:Hid (atoms.length = atoms2.length):=hid (by
   have h1:¬ ((atoms.length:Int) ≠ (atoms2.length:Int)):=fun e=>by rw [bne_iff_ne.2 e] at hlb;cases hlb
   omega)
  by_cases h1:cn = cn2
  case neg =>
   have hb:(cn == cn2) = false:=beq_eq_false_iff_ne.2 h1
   have HN:Hid (RS = false):=hid (by rw [← HRS.out,hb];simp)
   go_wp2_with fail
   go_ret
   exact ⟨ret_bool HN.out.symm,HX.out⟩
  subst h1
  by_cases h2:ds = ds2
  case neg =>
   have hb:(ds == ds2) = false:=beq_eq_false_iff_ne.2 h2
   have HN:Hid (RS = false):=hid (by rw [← HRS.out,hb];simp)
   go_wp2_with fail
   go_ret
   exact ⟨ret_bool HN.out.symm,HX.out⟩
  subst h2
  by_cases h3:lm = lm2
  case neg =>
   have hb:(lm == lm2) = false:=beq_eq_false_iff_ne.2 h3
   have HN:Hid (RS = false):=hid (by rw [← HRS.out,hb];simp)
   go_wp2_with fail
   go_ret
   exact ⟨ret_bool HN.out.symm,HX.out⟩
  subst h3
  by_cases h4:li = li2
  case neg =>
   have hb:(li == li2) = false:=beq_eq_false_iff_ne.2 h4
   have HN:Hid (RS = false):=hid (by rw [← HRS.out,hb];simp)
   go_wp2_with fail
   go_ret
   exact ⟨ret_bool HN.out.symm,HX.out⟩
  subst h4
  by_cases h5:off = off2
  case neg =>
   have hb:(off == off2) = false:=beq_eq_false_iff_ne.2 h5
   have HN:Hid (RS = false):=hid (by rw [← HRS.out,hb];simp)
   go_wp2_with fail
   go_ret
   exact ⟨ret_bool HN.out.symm,HX.out⟩
  subst h5
  have HRS2:Hid ((c1 && (c2 && c3)) = RS):=hid (by have h:=HRS.out;simpa using h)
  clear HRS
  go_wp2_with fail
  clear hlb d0 d1 d2 d3 d4 d5 d6 d7 e0 e1 e2 e3 e4 e5 e6 e7
  go_loopg [52] atoms.length (fun g i wr=>∃ k:Nat,k ≤ atoms.length ∧ g = atoms.length - k ∧ i = .int .i64 k ∧ Hid (Ext w1 wr) ∧ Hid (atoms.take k = atoms2.take k))
  case atStart=>exact ⟨0,Nat.zero_le _,rfl,rfl,hid (Ext.refl _),hid rfl⟩
  case round =>
   obtain ⟨k,hk,hg,rfl,hx,heq⟩:=hrel
   have Hg:=hid hg
   have HXr:=hid (HX.out.trans hx.out)
   have HBr:=hid (HB.out.ext hx.out)
   have HBr2:=hid (HB2.out.ext hx.out)
   clear hg
   obtain ⟨d0,d1,d2,d3,d4,d5,d6,d7⟩:=row8_facts HBr.out
   obtain ⟨e0,e1,e2,e3,e4,e5,e6,e7⟩:=row8_facts HBr2.out
   by_cases hlt:k < atoms.length
   ·have hltm:k < atoms2.length:=by have:=HLE.out;omega
    obtain ⟨b,o,rfl,f0,f1,f2,f3,f4,f5,f6⟩:=(HA.out.1.ext HXr.out).at_ hlt
    obtain ⟨b',o',rfl,g0,g1,g2,g3,g4,g5,g6⟩:=(HA.out.2.ext HXr.out).at_ hltm
    have l1:atoms.take (k + 1) = atoms.take k ++ [atoms[k]]:=List.take_succ_eq_append_getElem hlt
    have l2:atoms2.take (k + 1) = atoms2.take k ++ [atoms2[k]]:=List.take_succ_eq_append_getElem hltm
    generalize atoms[k] = xa at l1 f0 f1 f2 f3 f4 f5 f6
    generalize atoms2[k] = ya at l2 g0 g1 g2 g3 g4 g5 g6
    have L1:=hid l1
    have L2:=hid l2
    have hq:=fun w=>at_neqB xa ya w
    obtain ⟨Bq,hB⟩:∃ B,decide (xa = ya) = B:=⟨_,rfl⟩
    rw [hB] at hq
    have HBq:=hid hB
    unfold atV at hq
    clear l1 l2 hB
    obtain ⟨xk,xfk,xfn,xnm,xva,xtk,xtn⟩:=xa
    dsimp only at hq f0 f1 f2 f3 f4 f5 f6
    have hxa:=Ext.alloc wr (.cells #[.int .i64 xk,.bool xfk,.string xfn,.string xnm,.string xva,.bool xtk,.string xtn] 88)
    have hrow:=RowAt.new wr 88 [.int .i64 xk,.bool xfk,.string xfn,.string xnm,.string xva,.bool xtk,.string xtn]
    have HX2:=hid (hx.out.trans hxa)
    have HB3:=hid (HBr2.out.ext hxa)
    have HXX:=hid (HXr.out.trans hxa)
    have HRW:=hid hrow
    have v0:=ext_cell hxa g0
    have v1:=ext_cell hxa g1
    have v2:=ext_cell hxa g2
    have v3:=ext_cell hxa g3
    have v4:=ext_cell hxa g4
    have v5:=ext_cell hxa g5
    have v6:=ext_cell hxa g6
    go_upto_region 6 with fail
    clear f0 f1 f2 f3 f4 f5 f6 g0 g1 g2 g3 g4 g5 g6 d0 d1 d2 d3 d4 d5 d6 d7 e0 e1 e2 e3 e4 e5 e6 e7 hxa hrow
    generalize wr.alloc (.cells #[.int .i64 xk,.bool xfk,.string xfn,.string xnm,.string xva,.bool xtk,.string xtn] 88) = w2 at *
    obtain ⟨d0,d1,d2,d3,d4,d5,d6⟩:=row7_facts HRW.out
    have e0:=HB3.out.cell (i:=0) rfl
    cases Bq with
    | true =>
     go_quiet (fail)
     clear d0 d1 d2 d3 d4 d5 d6 e0 v0 v1 v2 v3 v4 v5 v6 hq
     go_wp2_with fail
     go_roundg (atoms.length - (k + 1))
     case measure=>have:=Hg.out;omega
     case rel=>exact ⟨k + 1,by omega,rfl,by go_num,hid (HX2.out.trans (Ext.drewN _ _)),hid (by rw [L1.out,L2.out,heq.out,of_decide_eq_true HBq.out])⟩
    | false =>
     have HNE:Hid (RS = false):=hid (by
      have hne:atoms ≠ atoms2:=fun h=>by
       have h1:=L1.out
       have h2:=L2.out
       rw [h,h2] at h1
       have:=List.append_cancel_left h1
       simp only [List.cons.injEq,and_true] at this
       exact of_decide_eq_false HBq.out this.symm
      have h1:=HP1.out
      rw [decide_eq_false hne] at h1
      rw [← HRS2.out,← h1];rfl)
     go_quiet (fail)
     clear d0 d1 d2 d3 d4 d5 d6 e0 v0 v1 v2 v3 v4 v5 v6 hq
     go_wp2_with fail
     go_ret
     exact ⟨ret_bool HNE.out.symm,HXX.out.trans (Ext.drewN _ _)⟩
   ·have he:k = atoms.length:=by omega
    have HEQ:Hid ((c2 && c3) = RS):=hid (by
     have h:=heq.out
     rw [he,List.take_length,HLE.out,List.take_length] at h
     have h1:=HP1.out
     rw [decide_eq_true h] at h1
     rw [← HRS2.out,← h1];rfl)
    have HR1:=hid (HR.out wr HXr.out)
    clear he HR
    cases c2 with
    | false =>
     go_wp2_with fail
     refine HR1.out.mono ?_
     rintro e w2 ⟨rfl,hx2⟩
     go_wp2_with fail
     go_ret
     exact ⟨ret_bool HEQ.out,HXr.out.trans hx2⟩
    | true =>
     go_wp2_with fail
     refine HR1.out.mono ?_
     rintro e w2 ⟨rfl,hx2⟩
     have HX2:=hid (HXr.out.trans hx2)
     have HB3:=hid (HBr.out.ext hx2)
     have HB4:=hid (HBr2.out.ext hx2)
     have HH2:=hid (HH.out w2 HX2.out)
     clear d0 d1 d2 d3 d4 d5 d6 d7 e0 e1 e2 e3 e4 e5 e6 e7 HR1 HH hx2
     obtain ⟨d0,d1,d2,d3,d4,d5,d6,d7⟩:=row8_facts HB3.out
     obtain ⟨e0,e1,e2,e3,e4,e5,e6,e7⟩:=row8_facts HB4.out
     go_wp2_with fail
     refine HH2.out.mono ?_
     rintro e w3 ⟨rfl,hx3⟩
     have HX3:=hid (HX2.out.trans hx3)
     clear hx3
     go_wp2_with fail
     go_ret
     exact ⟨ret_bool HEQ.out,HX3.out⟩
end

/- What a dictionary tells, right or not. -/
section
open Go.RowKit Go.Shelf Go.Sort
attribute [local go_sem] Oper.semAt_some wide_fn wide_depth
end

/- What a put comes to: plain. -/
section
open Go.RowKit
end

/- What a pattern comes to, its names being numbers: plain, no program in sight. -/
section
structure Arg where
 var:Int
 id:Int
deriving DecidableEq
structure Bnd where
 kind:Int
 name:Int
 a:Arg
 b:Arg
deriving DecidableEq
structure Gol where
 vars:List ByteArray
 atoms:List Bnd
 ret:List Int
 count:Bool
 distinct:Bool
 limited:Bool
 limit:Int
 offset:Int
 hint:List Int
deriving DecidableEq
def zGol:Gol:=⟨[],[],[],false,false,false,0,0,[]⟩
def argF (D:Dic) (V:List ByteArray) (k:Bool) (s:ByteArray):Option Arg:=if k = true then (if 0 ≤ idF D 0 s then some ⟨-1,idF D 0 s⟩ else none) else some ⟨findF V s,0⟩
def bndF (D:Dic) (V:List ByteArray) (a:Atm):Option Bnd :=
 if a.kind = 1 then (argF D V a.fk a.fn).map fun x=>⟨0,0,x,x⟩
 else if a.kind = 2 then (argF D V a.fk a.fn).bind fun x=>if 0 ≤ idF D 1 a.name then some ⟨1,idF D 1 a.name,x,x⟩ else none
 else if a.kind = 3 then (argF D V a.fk a.fn).bind fun x=>if 0 ≤ idF D 3 a.name ∧ 0 ≤ idF D 4 a.value then some ⟨2,idF D 3 a.name,⟨-1,idF D 4 a.value⟩,x⟩ else none
 else if a.kind = 4 then (argF D V a.fk a.fn).bind fun x=>(argF D V a.tk a.tn).bind fun y=>if 0 ≤ idF D 2 a.name then some ⟨3,idF D 2 a.name,x,y⟩ else none
 else none
def preF {α β:Type} (f:α → Option β):List α → List β × Bool
 | []=>([],true)
 | a :: l=>match f a with
  | none=>([],false)
  | some b=>(b :: (preF f l).1,(preF f l).2)
def PreI {α β:Type} (f:α → Option β) (l:List α) (k:Nat) (bs:List β):Prop:=preF f l = (bs ++ (preF f (l.drop k)).1,(preF f (l.drop k)).2) ∧ bs.length = k
theorem PreI.start {α β:Type} (f:α → Option β) (l:List α):PreI f l 0 []:=⟨by simp,rfl⟩
theorem PreI.some {α β:Type} {f:α → Option β} {l:List α} {k:Nat} {bs:List β} (h:PreI f l k bs) (hk:k < l.length) {b:β} (hb:f l[k] = .some b):PreI f l (k + 1) (bs ++ [b]):=by
 obtain ⟨h1,h2⟩:=h
 refine ⟨?_,by simp [h2]⟩
 rw [List.drop_eq_getElem_cons hk] at h1
 simp only [preF,hb] at h1
 rw [h1]
 simp
theorem PreI.none {α β:Type} {f:α → Option β} {l:List α} {k:Nat} {bs:List β} (h:PreI f l k bs) (hk:k < l.length) (hb:f l[k] = .none):preF f l = (bs,false):=by
 obtain ⟨h1,h2⟩:=h
 rw [List.drop_eq_getElem_cons hk] at h1
 simp only [preF,hb] at h1
 rw [h1]
 simp
theorem PreI.done {α β:Type} {f:α → Option β} {l:List α} {bs:List β} (h:PreI f l l.length bs):preF f l = (bs,true):=by
 obtain ⟨h1,h2⟩:=h
 rw [List.drop_length] at h1
 simp only [preF] at h1
 rw [h1]
 simp
def bndsF (D:Dic) (V:List ByteArray) (l:List Atm):List Bnd × Bool:=preF (bndF D V) l
def golOf (P:Pat) (l:List Bnd):Gol:=⟨varsS P.atoms,l,(if P.ret = [] then varsS P.atoms else P.ret).map (findF (varsS P.atoms)),P.count,P.distinct,P.limited,P.limit,P.offset,P.hint.map (findF (varsS P.atoms))⟩
def goalF (D:Dic) (P:Pat):Option Gol:=if (bndsF D (varsS P.atoms) P.atoms).2 = true then some (golOf P (bndsF D (varsS P.atoms) P.atoms).1) else none
def nameO (D:Dic) (k:Nat) (q:Int):Option ByteArray:=if 0 ≤ q ∧ q < (D k).1.length then some ((D k).1.getD q.toNat nilB) else none
def termF (D:Dic) (V:List ByteArray) (a:Arg):Option (Bool × ByteArray) :=
 if a.var = -1 then (nameO D 0 a.id).map fun s=>(true,s) else if 0 ≤ a.var ∧ a.var < V.length ∧ a.id = 0 then some (false,V.getD a.var.toNat nilB) else none
def atmF (D:Dic) (V:List ByteArray) (b:Bnd):Option Atm :=
 if b.kind = 0 then (termF D V b.a).map fun t=>⟨1,t.1,t.2,nilB,nilB,false,nilB⟩
 else if b.kind = 1 then (termF D V b.a).bind fun t=>(nameO D 1 b.name).map fun s=>⟨2,t.1,t.2,s,nilB,false,nilB⟩
 else if b.kind = 2 then (termF D V b.b).bind fun t=>(nameO D 3 b.name).bind fun s=>(nameO D 4 b.a.id).map fun v=>⟨3,t.1,t.2,s,v,false,nilB⟩
 else if b.kind = 3 then (termF D V b.a).bind fun t=>(nameO D 2 b.name).bind fun s=>(termF D V b.b).map fun u=>⟨4,t.1,t.2,s,nilB,u.1,u.2⟩
 else none
def atmsF (D:Dic) (V:List ByteArray) (l:List Bnd):List Atm × Bool:=preF (atmF D V) l
def textO (V:List ByteArray) (q:Int):Option ByteArray:=if 0 ≤ q ∧ q < V.length then some (V.getD q.toNat nilB) else none
def textsO (V:List ByteArray) (l:List Int):Option (List ByteArray):=if (preF (textO V) l).2 = true then some (preF (textO V) l).1 else none
def patOf (g:Gol) (A:List Atm) (R H:List ByteArray):Pat:=⟨A,if R = g.vars then [] else R,g.count,g.distinct,g.limited,g.limit,g.offset,H⟩
def backF (D:Dic) (g:Gol):Option Pat :=
 if (atmsF D g.vars g.atoms).2 = true then
  match textsO g.vars g.ret,textsO g.vars g.hint with
  | some R,some H=>if (patOf g (atmsF D g.vars g.atoms).1 R H).okB = true ∧ goalF D (patOf g (atmsF D g.vars g.atoms).1 R H) = some g then some (patOf g (atmsF D g.vars g.atoms).1 R H) else none
  | _,_=>none
 else none
end

/- The names of a dictionary, and variables, in memory: one name's id, one id's name. -/
section
open Go.RowKit Go.Shelf Go.Sort
attribute [local go_sem] Oper.semAt_some wide_fn wide_depth
def nmL (vs:Nat → Value × Value) (m:Nat) (av:Value):List Value:=dcells vs ++ [.map (some m),av]
def nmV (vs:Nat → Value × Value) (m:Nat) (av:Value):Value:=.agg (nmL vs m av).toArray
def unknE:Ending:=.panicked [{ v:=.iface 142 (.agg #[]),recovered:=false }]
theorem need_yes (w:World):Calls Tryz.prog 91 #[.bool true] w fun e w'=>e = .returned (.tuple #[]) ∧ w = w':=by
 go_enter Tryz.func91,Tryz.ntmps91
 go_wp2
 go_end0
 exact ⟨rfl,rfl⟩
theorem need_no (w:World):Calls Tryz.prog 91 #[.bool false] w fun e w'=>e = unknE ∧ w = w':=by
 go_enter Tryz.func91,Tryz.ntmps91
 go_wp2
 exact ⟨rfl,rfl,rfl⟩
theorem nm_dict {w:World} {g:Nat} {t:TypeId} {vs:Nat → Value × Value} {m:Nat} {av:Value} (h:RowAt w g t (nmL vs m av)):w.rangeAt g 0 (dcells vs):=RowAt.range (pre:=[]) h
theorem nm_map {w:World} {g:Nat} {t:TypeId} {vs:Nat → Value × Value} {m:Nat} {av:Value} (h:RowAt w g t (nmL vs m av)):w.cell? ⟨g,10,none⟩ = some (.map (some m)) ∧ w.cell? ⟨g,11,none⟩ = some av:=⟨h.cell (i:=10) rfl,h.cell (i:=11) rfl⟩
def outE {α:Type} (r:Option α) (f:α → Value):Ending:=match r with
 | some x=>.returned (f x)
 | none=>unknE
def idO (D:Dic) (kind:Int) (s:ByteArray):Option Int:=if 0 ≤ idF D kind s then some (idF D kind s) else none
def intV (q:Int):Value:=.int .i64 q
theorem nid_any (vs:Nat → Value × Value) (m:Nat) (av:Value) (D:Dic) (w:World) (hV:DicV w vs D) (hS:DicS D) (h:DicOK D) (kind:Int) (s:ByteArray) (hs:s.size ≤ 9223372036854775807) :
 Calls Tryz.prog 120 #[nmV vs m av,.int .i64 kind,.string s] w fun e w'=>e = outE (idO D kind s) intV ∧ Ext w w':=by
 have hx0:=Ext.alloc w (.cells (nmL vs m av).toArray 98)
 have hb0:=RowAt.new w 98 (nmL vs m av)
 have HI:=hid (fun w' (hx:Ext w w')=>id_yes vs D w' (hV.ext hx) hS h kind s hs)
 have HX:=hid hx0
 have HB:=hid hb0
 clear hx0 hb0
 obtain ⟨X,hX⟩:∃ X,outE (idO D kind s) intV = X:=⟨_,rfl⟩
 rw [hX]
 unfold idO at hX
 unfold nmV idRes at *
 obtain ⟨q,hq⟩:∃ q,idF D kind s = q:=⟨_,rfl⟩
 rw [hq] at HI hX
 clear hq
 obtain ⟨ok,hok⟩:∃ b,decide (0 ≤ q) = b:=⟨_,rfl⟩
 obtain ⟨r,hr⟩:∃ r,max q 0 = r:=⟨_,rfl⟩
 have HE:Hid ((ok = true → .returned (.int .i64 r) = X) ∧ (ok = false → unknE = X)):=hid ⟨fun h=>by
  rw [← hok,decide_eq_true_eq] at h
  rw [← hX,if_pos h,← hr,show max q 0 = q by omega];rfl,fun h=>by
  rw [← hok,decide_eq_false_iff_not] at h
  rw [← hX,if_neg h];rfl⟩
 rw [hok,hr] at HI
 clear hok hr hX
 go_enter Tryz.func120,Tryz.ntmps120
 go_upto_region 1 with fail
 generalize w.alloc (.cells (nmL vs m av).toArray 98) = w1 at *
 generalize w.heap.size = y at *
 apply wp_region_lit
 (refine wpList_plain rfl fun Y y'=>?_;go_simp;refine y' _ _ ?_;clear y' Y)
 refine wpList_load_mid rfl _ _ rfl y 0 rfl _ _ (nm_dict HB.out) Tryz.underlying28 rfl (by kernel_rfl) ?_
 go_simp
 iterate 2 (refine wpList_plain rfl fun Y y'=>?_;go_simp;refine y' _ _ ?_;clear y' Y)
 refine wpList_plain rfl fun K1 hK1=>?_
 go_simp
 refine (HI.out w1 HX.out).mono ?_;rintro e w2 ⟨rfl,hx2⟩
 go_simp
 refine hK1 _ _ ?_
 clear hK1 K1
 iterate 5 (refine wpList_plain rfl fun Y y'=>?_;go_simp;refine y' _ _ ?_;clear y' Y)
 apply wpList_nil
 have HX2:=hid (HX.out.trans hx2)
 clear hx2 HX HI HB
 cases ok
 case true =>
  replace HE:=hid (HE.out.1 rfl)
  go_wp2_with fail
  refine (need_yes _).mono ?_
  rintro e w3 ⟨rfl,rfl⟩
  go_wp2_with fail
  go_ret
  exact ⟨HE.out,HX2.out⟩
 case false =>
  replace HE:=hid (HE.out.2 rfl)
  go_wp2_with fail
  refine (need_no _).mono ?_
  rintro e w3 ⟨rfl,rfl⟩
  unfold unknE
  dsimp only
  go_wp2_with fail
  exact ⟨rfl,HE.out,HX2.out⟩
end

/- The names of a dictionary, and variables: the name of an id; how they are made. -/
section
open Go.RowKit Go.Shelf Go.Sort
attribute [local go_sem] Oper.semAt_some wide_fn wide_depth
def strV (s:ByteArray):Value:=.string s
theorem nameF_yes {D:Dic} {k:Nat} {q:Int} (hk:k < 5) {s:ByteArray} (h:nameO D k q = some s):nameF D k q = .tuple #[.string s,.int .i64 0]:=by
 unfold nameO at h
 split at h
 ·rename_i hq
  cases h
  unfold nameF textF
  rw [if_pos ⟨by omega,by omega⟩,if_pos (by simpa using hq)]
  simp [nilB]
 ·cases h
theorem nameF_no {D:Dic} {k:Nat} {q:Int} (hk:k < 5) (h:nameO D k q = none):nameF D k q = .tuple #[.string ⟨#[]⟩,.int .i64 4]:=by
 unfold nameO at h
 split at h
 ·cases h
 ·rename_i hq
  unfold nameF textF
  rw [if_pos ⟨by omega,by omega⟩,if_neg (by simpa using hq)]
theorem nname_any (vs:Nat → Value × Value) (m:Nat) (av:Value) (D:Dic) (w:World) (hV:DicV w vs D) (hS:DicS D) (h:DicOK D) (k:Nat) (hk:k < 5) (q:Int) :
 Calls Tryz.prog 122 #[nmV vs m av,.int .i64 k,.int .i64 q] w fun e w'=>e = outE (nameO D k q) strV ∧ Ext w w':=by
 have hx0:=Ext.alloc w (.cells (nmL vs m av).toArray 98)
 have hb0:=RowAt.new w 98 (nmL vs m av)
 have HI:=hid (fun w' (hx:Ext w w')=>name_yes vs D w' (hV.ext hx) hS h k q)
 have HX:=hid hx0
 have HB:=hid hb0
 clear hx0 hb0
 unfold nmV
 obtain ⟨r,hr⟩:∃ r,nameO D k q = r:=⟨_,rfl⟩
 rw [hr]
 cases r with
 | some s =>
  rw [nameF_yes hk hr] at HI
  clear hr
  go_enter Tryz.func122,Tryz.ntmps122
  go_upto_region 1 with fail
  generalize w.alloc (.cells (nmL vs m av).toArray 98) = w1 at *
  generalize w.heap.size = y at *
  apply wp_region_lit
  (refine wpList_plain rfl fun Y y'=>?_;go_simp;refine y' _ _ ?_;clear y' Y)
  refine wpList_load_mid rfl _ _ rfl y 0 rfl _ _ (nm_dict HB.out) Tryz.underlying28 rfl (by kernel_rfl) ?_
  go_simp
  iterate 2 (refine wpList_plain rfl fun Y y'=>?_;go_simp;refine y' _ _ ?_;clear y' Y)
  refine wpList_plain rfl fun K1 hK1=>?_
  go_simp
  refine (HI.out w1 HX.out).mono ?_;rintro e w2 ⟨rfl,hx2⟩
  go_simp
  refine hK1 _ _ ?_
  clear hK1 K1
  iterate 5 (refine wpList_plain rfl fun Y y'=>?_;go_simp;refine y' _ _ ?_;clear y' Y)
  apply wpList_nil
  have HX2:=hid (HX.out.trans hx2)
  clear hx2 HX HI HB
  go_wp2_with fail
  refine (need_yes _).mono ?_
  rintro e w3 ⟨rfl,rfl⟩
  go_wp2_with fail
  go_ret
  exact ⟨rfl,HX2.out⟩
 | none =>
  rw [nameF_no hk hr] at HI
  clear hr
  go_enter Tryz.func122,Tryz.ntmps122
  go_upto_region 1 with fail
  generalize w.alloc (.cells (nmL vs m av).toArray 98) = w1 at *
  generalize w.heap.size = y at *
  apply wp_region_lit
  (refine wpList_plain rfl fun Y y'=>?_;go_simp;refine y' _ _ ?_;clear y' Y)
  refine wpList_load_mid rfl _ _ rfl y 0 rfl _ _ (nm_dict HB.out) Tryz.underlying28 rfl (by kernel_rfl) ?_
  go_simp
  iterate 2 (refine wpList_plain rfl fun Y y'=>?_;go_simp;refine y' _ _ ?_;clear y' Y)
  refine wpList_plain rfl fun K1 hK1=>?_
  go_simp
  refine (HI.out w1 HX.out).mono ?_;rintro e w2 ⟨rfl,hx2⟩
  go_simp
  refine hK1 _ _ ?_
  clear hK1 K1
  iterate 5 (refine wpList_plain rfl fun Y y'=>?_;go_simp;refine y' _ _ ?_;clear y' Y)
  apply wpList_nil
  have HX2:=hid (HX.out.trans hx2)
  clear hx2 HX HI HB
  go_wp2_with fail
  refine (need_no _).mono ?_
  rintro e w3 ⟨rfl,rfl⟩
  unfold unknE
  dsimp only
  go_wp2_with fail
  exact ⟨rfl,rfl,HX2.out⟩
theorem wpList_built {P:Program} {Q:Exit → Act → World → Prop} {ops:Array Oper} {rest:List Oper} {o:Oper} {a:Act} {w:World} (hg:o.guard = none) (t:TypeId) (parts:Array (Nat × Operand)) (ho:o.op = .build t parts) (cs:Array Value)
 (hf:P.built t (parts.map fun (i,x)=>(i,a.eval x)).toList = some cs)
 (h:wpList P ops Q rest (a.put o.dst (.agg cs)) w):wpList P ops Q (o :: rest) a w :=
 wpList_build hg t parts ho (by rw [hf];rfl) (by rw [hf];exact h)
def KvIs (V:List ByteArray) (kv:List (Value × Value)):Prop:=(∀ p ∈ kv,∃ s,p.1 = .string s ∧ s ∈ V) ∧ ∀ s ∈ V,∃ j i:Nat,kv[j]? = some (.string s,.int .i64 i) ∧ V[i]? = some s
theorem KvIs.nil:KvIs [] []:=⟨fun p h=>by simp at h,fun s h=>by simp at h⟩
theorem KvIs.new {V:List ByteArray} {kv:List (Value × Value)} (h:KvIs V kv) {s:ByteArray} (hn:s ∉ V):KvIs (V ++ [s]) (kv ++ [(.string s,.int .i64 V.length)]):=by
 refine ⟨fun p hp=>?_,fun t ht=>?_⟩
 ·rcases List.mem_append.1 hp with hp | hp
  ·obtain ⟨t,e,ht⟩:=h.1 p hp
   exact ⟨t,e,List.mem_append_left _ ht⟩
  ·simp at hp
   subst hp
   exact ⟨s,rfl,by simp⟩
 ·rcases List.mem_append.1 ht with ht | ht
  ·obtain ⟨j,i,h1,h2⟩:=h.2 t ht
   refine ⟨j,i,?_,?_⟩
   ·rw [List.getElem?_append_left (List.getElem?_eq_some_iff.1 h1).1];exact h1
   ·rw [List.getElem?_append_left (List.getElem?_eq_some_iff.1 h2).1];exact h2
  ·simp at ht
   subst ht
   exact ⟨kv.length,V.length,by simp,by simp⟩
theorem KvIs.old {V:List ByteArray} {kv:List (Value × Value)} (h:KvIs V kv) {s:ByteArray} {j:Nat} {u:Value} (hj:kv[j]? = some (.string s,u)):KvIs (V ++ [s]) (kv.set j (.string s,.int .i64 V.length)):=by
 have hjl:=(List.getElem?_eq_some_iff.1 hj).1
 refine ⟨fun p hp=>?_,fun t ht=>?_⟩
 ·rcases List.mem_or_eq_of_mem_set hp with hp | rfl
  ·obtain ⟨t,e,ht⟩:=h.1 p hp
   exact ⟨t,e,List.mem_append_left _ ht⟩
  ·exact ⟨s,rfl,by simp⟩
 ·by_cases hts:t = s
  ·subst hts
   exact ⟨j,V.length,by simp [hjl],by simp⟩
  ·rcases List.mem_append.1 ht with ht | ht
   ·obtain ⟨j',i,h1,h2⟩:=h.2 t ht
    have hne:j ≠ j':=by
     rintro rfl
     rw [hj] at h1
     simp at h1
     exact hts h1.1.symm
    refine ⟨j',i,?_,?_⟩
    ·rw [List.getElem?_set_ne hne];exact h1
    ·rw [List.getElem?_append_left (List.getElem?_eq_some_iff.1 h2).1];exact h2
   ·simp at ht
    exact absurd ht hts
end

end Go.Proofs.YtkmbnghghbfkdaaGreat
