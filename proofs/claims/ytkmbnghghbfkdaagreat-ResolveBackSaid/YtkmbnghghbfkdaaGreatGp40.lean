/- An argument that is a goal; what it weighs. -/
import Derived.Test.YtkmbnghghbfkdaaGreatGp32
import Derived.Test.YtkmbnghghbfkdaaGreatGp19
import Derived.Test.YtkmbnghghbfkdaaGreatGp39
import Derived.Test.YtkmbnghghbfkdaaGreatGp30
import Derived.Test.YtkmbnghghbfkdaaGreatGp34
import Derived.Test.YtkmbnghghbfkdaaGreatGp22
import Derived.Test.YtkmbnghghbfkdaaGreatGp24
set_option linter.unusedSimpArgs false
set_option linter.unusedVariables false
set_option maxHeartbeats 2000000
set_option maxRecDepth 100000
namespace Go.Proofs.YtkmbnghghbfkdaaGreat
open Go.Lib (hid)

section
open Go.ChangeShapes Go.WideShapes Go.ChangeAt Go.RowKit Go.Deep
theorem six {α:Type} {cs:List α} (h:cs.length = 6):∃ c0 c1 c2 c3 c4 c5,cs = [c0,c1,c2,c3,c4,c5]:=by
 match cs,h with
 | [c0,c1,c2,c3,c4,c5],_=>exact ⟨c0,c1,c2,c3,c4,c5,rfl⟩
theorem nine {α:Type} {cs:Array α} (h:cs.size = 9):∃ c0 c1 c2 c3 c4 c5 c6 c7 c8,cs = #[c0,c1,c2,c3,c4,c5,c6,c7,c8]:=by
 obtain ⟨l⟩:=cs
 match l,h with
 | [c0,c1,c2,c3,c4,c5,c6,c7,c8],_=>exact ⟨c0,c1,c2,c3,c4,c5,c6,c7,c8,rfl⟩
theorem open_twoI {H:Type} {enc:TypeId × Value → H} {w:World} {base:Nat} {spare:Nat → Bool} {held:Bool} {n:Nat} {x y:Value} {y0 y1:DataW H × List MemPlace}
 (h0:DataW.trod enc Tryz.prog w base spare held n 3 [x] = some y0) (h1:DataW.trod enc Tryz.prog w base spare held n 3 [y] = some y1):∃ a b:Int,x = .int .i64 a ∧ y = .int .i64 b:=by
 obtain ⟨a,e0,_⟩:=DataW.trod_int Tryz.underlying3 h0
 obtain ⟨b,e1,_⟩:=DataW.trod_int Tryz.underlying3 h1
 simp at e0 e1
 exact ⟨a,b,e0,e1⟩
theorem open_rel {H:Type} {enc:TypeId × Value → H} {w:World} {base:Nat} {spare:Nat → Bool} {held:Bool} {m:Nat} {x y:Value} {z:DataW H × List MemPlace}
 (h:DataW.trod enc Tryz.prog w base spare held m 71 [x,y] = some z):∃ a b:Int,x = .int .i64 a ∧ y = .int .i64 b:=by
 obtain ⟨y0,y1,n,hz,_,h0,h1⟩:=trod_struct2 Tryz.underlying71 h
 exact open_twoI (n:=n) (y0:=y0) (y1:=y1) h0 h1
theorem open_arg {H:Type} {enc:TypeId × Value → H} {w:World} {base:Nat} {spare:Nat → Bool} {held:Bool} {m:Nat} {x y:Value} {z:DataW H × List MemPlace}
 (h:DataW.trod enc Tryz.prog w base spare held m 73 [x,y] = some z):∃ a b:Int,x = .int .i64 a ∧ y = .int .i64 b:=by
 obtain ⟨y0,y1,n,hz,_,h0,h1⟩:=trod_struct2 Tryz.underlying73 h
 exact open_twoI (n:=n) (y0:=y0) (y1:=y1) h0 h1
theorem open_bound {H:Type} {enc:TypeId × Value → H} {w:World} {base:Nat} {spare:Nat → Bool} {held:Bool} {m:Nat} {cs:List Value} {z:DataW H × List MemPlace}
 (h:DataW.trod enc Tryz.prog w base spare held m 75 cs = some z):∃ b:Bnd,cs = bndCells b:=by
 obtain ⟨xs,n,_,hz,hlc,hlen,hf⟩:=DataW.trod_struct Tryz.underlying75 h
 rw [show Tryz.prog.cellsOf 75 = 6 from by kernel_rfl] at hlc
 obtain ⟨c0,c1,c2,c3,c4,c5,rfl⟩:=six hlc
 have hlen':xs.length = 3:=hlen
 obtain ⟨x0,x1,x2,rfl⟩:∃ x0 x1 x2,xs = [x0,x1,x2]:=by
  match xs,hlen' with
  | [x0,x1,x2],_=>exact ⟨x0,x1,x2,rfl⟩
 have hi:Tryz.prog.cellsOf 71 = 2:=by kernel_rfl
 have hs:Tryz.prog.cellsOf 73 = 2:=by kernel_rfl
 have h0:DataW.trod enc Tryz.prog w base spare held n 71 [c0,c1] = some x0:=hf 0 _ rfl
 have h1:DataW.trod enc Tryz.prog w base spare held n 73 [c2,c3] = some x1:=hf 1 _ rfl
 have h2:DataW.trod enc Tryz.prog w base spare held n 73 [c4,c5] = some x2:=hf 2 _ rfl
 obtain ⟨a0,a1,rfl,rfl⟩:=open_rel h0
 obtain ⟨a2,a3,rfl,rfl⟩:=open_arg h1
 obtain ⟨a4,a5,rfl,rfl⟩:=open_arg h2
 exact ⟨⟨a0,a1,⟨a2,a3⟩,⟨a4,a5⟩⟩,rfl⟩
theorem open_bounds {H:Type} {enc:TypeId × Value → H} {w:World} {base:Nat} {spare:Nat → Bool} {held:Bool} {m:Nat} {v:Value} {z:DataW H × List MemPlace}
 (h:DataW.trod enc Tryz.prog w base spare held m 37 [v] = some z):∃ l,Bnds w v l:=by
 have hC:Tryz.prog.cellsOf 75 = 6:=by kernel_rfl
 rcases open_slice Tryz.underlying37 h with ⟨hcs,_⟩ | ⟨x,len,cap,m,n,D,Pl,hcs,_,hlc,hm,hz,hx,hcell⟩
 ·simp at hcs
  subst hcs
  exact ⟨[],Sl.nil w⟩
 ·simp at hcs
  subst hcs
  have hlm:len ≤ m:=by split at hz <;> omega
  rw [hC] at hcell
  obtain ⟨xs,hx1,hx2⟩:=choose_row len (fun i (t:Bnd)=>∀ j v,(bndCells t)[j]? = some v → w.cell? (x.add (i * 6 + j)) = some v) (fun i hi=>by
   obtain ⟨cs',hc,ht⟩:=hcell i (by omega)
   obtain ⟨a,rfl⟩:=open_bound ht
   obtain ⟨_,hcl,hat⟩:=World.cells?_some hc
   refine ⟨a,fun j v hj=>?_⟩
   have hjl:j < 6:=(List.getElem?_eq_some_iff.1 hj).1
   have:=hat j hjl
   rw [Go.Deep.add_add] at this
   rw [this,hj])
  refine ⟨xs,?_⟩
  have:=sl_of_rows (w:=w) (x:=x) bndCells (m:=6) (fun _=>rfl) (by omega) hlc hm xs hx1 (fun i hi j v hj=>hx2 i hi j v hj)
  unfold Bnds;rw [hx1];exact this
theorem flat_str (xs:List ByteArray):xs.flatMap (fun s=>[Value.string s]) = xs.map Value.string:=by
 induction xs with
 | nil=>rfl
 | cons x xs ih=>rw [List.flatMap_cons,List.map_cons,ih];rfl
theorem open_textsL {H:Type} {enc:TypeId × Value → H} {w:World} {base:Nat} {spare:Nat → Bool} {held:Bool} {m:Nat} {v:Value} {z:DataW H × List MemPlace}
 (h:DataW.trod enc Tryz.prog w base spare held m 22 [v] = some z) (hl:Light Tryz.prog 22 z.1):∃ l,Strs w v l ∧ ∀ s ∈ l,s.size ≤ reachBytes:=by
 have hC:Tryz.prog.cellsOf 9 = 1:=by kernel_rfl
 rcases open_slice Tryz.underlying22 h with ⟨hcs,_⟩ | ⟨x,len,cap,m,n,D,Pl,hcs,_,hlc,hm,hz,hx,hcell⟩
 ·simp at hcs
  subst hcs
  exact ⟨[],Sl.nil w,fun s hs=>by simp at hs⟩
 ·simp at hcs
  subst hcs
  have hlm:len ≤ m:=by split at hz <;> omega
  rw [hx] at hl
  rw [hC] at hcell
  obtain ⟨xs,hx1,hx2⟩:=choose_row len (fun i (t:ByteArray)=>(∀ j v,([Value.string t])[j]? = some v → w.cell? (x.add (i * 1 + j)) = some v) ∧ t.size ≤ reachBytes) (fun i hi=>by
   obtain ⟨cs',hc,ht⟩:=hcell i (by omega)
   obtain ⟨s,e,z1,_⟩:=DataW.trod_string Tryz.underlying9 ht
   have hle:=light_elem Tryz.underlying22 hl (List.mem_map.2 ⟨i,by simpa using hi,rfl⟩)
   rw [show D i = _ from (Prod.mk.inj z1).1] at hle
   subst e
   obtain ⟨_,hcl,hat⟩:=World.cells?_some hc
   refine ⟨s,fun j v hj=>?_,light_str hle⟩
   have hjl:j < 1:=(List.getElem?_eq_some_iff.1 hj).1
   have:=hat j hjl
   rw [Go.Deep.add_add] at this
   rw [this,hj])
  refine ⟨xs,?_,fun t ht=>?_⟩
  ·have:=sl_of_rows (w:=w) (x:=x) (fun s:ByteArray=>[Value.string s]) (m:=1) (fun _=>rfl) (by omega) hlc hm xs hx1 (fun i hi j v hj=>(hx2 i hi).1 j v hj)
   unfold Strs;rw [hx1]
   rw [flat_str] at this;exact this
  ·obtain ⟨i,hi,rfl⟩:=List.getElem_of_mem ht
   exact (hx2 i hi).2
theorem open_intsP {H:Type} {enc:TypeId × Value → H} {w:World} {base:Nat} {spare:Nat → Bool} {held:Bool} {m:Nat} {v:Value} {z:DataW H × List MemPlace}
 (h:DataW.trod enc Tryz.prog w base spare held m 23 [v] = some z):∃ l,Ints w .i64 v l:=by
 obtain ⟨a,len,cap,rfl⟩:=slice_shape_of Tryz.underlying23 h
 obtain ⟨T,hT,_⟩:=open_Ints (d:=z.1) (p:=z.2) Tryz.underlying23 Tryz.underlying3 (by kernel_rfl) ⟨m,by simpa [Value.cells] using h⟩
 exact ⟨T,hT⟩
def Gol.Near (G:Gol):Prop:=∀ s ∈ G.vars,s.size ≤ reachBytes
theorem open_goal {H:Type} {enc:TypeId × Value → H} {w:World} {M:Reach} {base base':Nat} {spare:Nat → Bool} {held:Bool} {v:Value} {d:DataW H} {p:List MemPlace}
 (ho:Value.okWide Tryz.prog w M base' 39 v) (h:DataW.Trod enc Tryz.prog w base spare held 39 v d p) (hl:Light Tryz.prog 39 d) :
 ∃ G:Gol,GolAt w v G ∧ G.Near:=by
 obtain ⟨cs,rfl,hsz⟩:=okWide_struct Tryz.underlying39 ho
 have hC:Tryz.prog.cellsOf 39 = 9:=by kernel_rfl
 obtain ⟨c0,c1,c2,c3,c4,c5,c6,c7,c8,rfl⟩:=nine (hsz.trans hC)
 obtain ⟨fuel,hf0⟩:=h
 obtain ⟨xs,n,_,hz,_,hlen,hf⟩:=DataW.trod_struct Tryz.underlying39 hf0
 obtain ⟨rfl,_⟩:=Prod.mk.inj hz
 have hlen':xs.length = 9:=hlen
 obtain ⟨x0,x1,x2,x3,x4,x5,x6,x7,x8,rfl⟩:∃ x0 x1 x2 x3 x4 x5 x6 x7 x8,xs = [x0,x1,x2,x3,x4,x5,x6,x7,x8]:=by
  match xs,hlen' with
  | [x0,x1,x2,x3,x4,x5,x6,x7,x8],_=>exact ⟨x0,x1,x2,x3,x4,x5,x6,x7,x8,rfl⟩
 have h0:DataW.trod enc Tryz.prog w base spare held n 22 [c0] = some x0:=hf 0 _ rfl
 have h1:DataW.trod enc Tryz.prog w base spare held n 37 [c1] = some x1:=hf 1 _ rfl
 have h2:DataW.trod enc Tryz.prog w base spare held n 23 [c2] = some x2:=hf 2 _ rfl
 have h3:DataW.trod enc Tryz.prog w base spare held n 4 [c3] = some x3:=hf 3 _ rfl
 have h4:DataW.trod enc Tryz.prog w base spare held n 4 [c4] = some x4:=hf 4 _ rfl
 have h5:DataW.trod enc Tryz.prog w base spare held n 4 [c5] = some x5:=hf 5 _ rfl
 have h6:DataW.trod enc Tryz.prog w base spare held n 3 [c6] = some x6:=hf 6 _ rfl
 have h7:DataW.trod enc Tryz.prog w base spare held n 3 [c7] = some x7:=hf 7 _ rfl
 have h8:DataW.trod enc Tryz.prog w base spare held n 23 [c8] = some x8:=hf 8 _ rfl
 have l0:Light Tryz.prog 22 x0.1:=light_part (i:=0) Tryz.underlying39 hl rfl rfl
 obtain ⟨V,hV,hVn⟩:=open_textsL h0 l0
 obtain ⟨A,hA⟩:=open_bounds h1
 obtain ⟨R,hR⟩:=open_intsP h2
 obtain ⟨K,hK⟩:=open_intsP h8
 obtain ⟨b3,e3,_⟩:=DataW.trod_bool Tryz.underlying4 h3
 obtain ⟨b4,e4,_⟩:=DataW.trod_bool Tryz.underlying4 h4
 obtain ⟨b5,e5,_⟩:=DataW.trod_bool Tryz.underlying4 h5
 obtain ⟨q6,e6,_,w6⟩:=DataW.trod_int Tryz.underlying3 h6
 obtain ⟨q7,e7,_,w7⟩:=DataW.trod_int Tryz.underlying3 h7
 simp at e3 e4 e5 e6 e7
 subst e3 e4 e5 e6 e7
 exact ⟨⟨V,A,R,b3,b4,b5,q6,q7,K⟩,⟨_,_,_,_,rfl,hV,hA,hR,hK⟩,hVn⟩
end

/- Rows of rows held against one another; what the laws' rows are copied by. -/
section
open Go.RowKit Go.Shelf Go.Sort
attribute [local go_sem] Oper.semAt_some wide_fn wide_depth
def IV (w:World) (v:Value) (xs:List (Value × List Int)):Prop:=Sl w v xs.length (xs.map Prod.fst) ∧ ∀ x ∈ xs,Ints w .i64 x.1 x.2
theorem IV.ext {w w':World} {v:Value} {xs:List (Value × List Int)} (h:IV w v xs) (hx:Ext w w'):IV w' v xs:=⟨Sl.ext h.1 hx,fun x hm=>Ints.ext (h.2 x hm) hx⟩
theorem IV.at_ {w:World} {a:Option Addr} {n c:Nat} {xs:List (Value × List Int)} (h:IV w (.slice a n c) xs) {k:Nat} (hk:k < xs.length):(∃ b o,a = some ⟨b,o,none⟩ ∧ w.cell? ⟨b,o + k,none⟩ = some xs[k].1) ∧ Ints w .i64 xs[k].1 xs[k].2:=by
 obtain ⟨a',c',e,h1⟩:=id h.1
 simp only [Value.slice.injEq] at e
 obtain ⟨_,rfl,_⟩:=e
 obtain ⟨b,o,rfl,hc⟩:=Sl.at_ h.1 (by simpa using hk:k < (xs.map Prod.fst).length)
 exact ⟨⟨b,o,rfl,by simpa using hc⟩,h.2 _ (List.getElem_mem hk)⟩
theorem IV.of_own {B:Nat} {w:World} {v:Value} {xs:List (Value × List Int)} (h:IRows B w v xs):IV w v xs:=⟨Sl.of_own h.1,fun x hm=>Sl.of_own (h.2 x hm)⟩
theorem eqIRows_any (v u:Value) (xs ys:List (Value × List Int)) (w:World) (hv:IV w v xs) (hu:IV w u ys) (hl:xs.length ≤ 1000000) :
 Calls Tryz.prog 32 #[v,u,.func (.func 34) #[] #[]] w fun e w'=>e = .returned (.bool (decide (xs.map Prod.snd = ys.map Prod.snd))) ∧ Ext w w':=by
 obtain ⟨a,c,rfl,hc1,hc2⟩:=Sl.shape hv.1
 obtain ⟨a',c',rfl,hc1',hc2'⟩:=Sl.shape hu.1
 have HV:=hid hv
 have HU:=hid hu
 clear hv hu
 by_cases hlen:xs.length = ys.length
 ·have hne:((xs.length:Int) != (ys.length:Int)) = false:=by simp [hlen]
  have Hlen:=hid hlen
  clear hlen
  go_enter Tryz.func32,Tryz.ntmps32
  go_wp2_with fail
  go_loopg [17] xs.length (fun g i wr=>∃ k:Nat,k ≤ xs.length ∧ g = xs.length - k ∧ i = .int .i64 k ∧ Hid (Ext w wr) ∧ Hid ((xs.map Prod.snd).take k = (ys.map Prod.snd).take k))
  case atStart=>exact ⟨0,Nat.zero_le _,rfl,rfl,hid (Ext.refl _),hid rfl⟩
  case round =>
   obtain ⟨k,hk,hg,rfl,HX,heq⟩:=hrel
   have Hg:=hid hg
   clear hg
   by_cases hlt:k < xs.length
   ·have hltm:k < ys.length:=by have:=Hlen.out;omega
    obtain ⟨⟨b,o,rfl,c0⟩,hx0⟩:=(HV.out.ext HX.out).at_ hlt
    obtain ⟨⟨b',o',rfl,d0⟩,hy0⟩:=(HU.out.ext HX.out).at_ hltm
    have e1:(xs.map Prod.snd).take (k + 1) = (xs.map Prod.snd).take k ++ [xs[k].2]:=by rw [List.take_succ_eq_append_getElem (by simpa using hlt)];simp
    have e2:(ys.map Prod.snd).take (k + 1) = (ys.map Prod.snd).take k ++ [ys[k].2]:=by rw [List.take_succ_eq_append_getElem (by simpa using hltm)];simp
    generalize xs[k] = x at *
    generalize ys[k] = y at *
    obtain ⟨xv,xl⟩:=x
    obtain ⟨yv,yl⟩:=y
    dsimp only at c0 d0 hx0 hy0 e1 e2
    obtain ⟨xa,xc,rfl,_,_⟩:=Sl.shape hx0
    obtain ⟨ya,yc,rfl,_,_⟩:=Sl.shape hy0
    have E1:=hid e1
    have E2:=hid e2
    have hq:=eqInts_any _ _ xl yl wr hx0 hy0
    obtain ⟨B,hB⟩:∃ B,decide (xl = yl) = B:=⟨_,rfl⟩
    rw [hB] at hq
    have HB:=hid hB
    have HQ:=hid hq
    have hk6:k ≤ 1000000:=by omega
    clear e1 e2 hB hq hx0 hy0
    cases B with
    | true =>
     go_wp2_with fail
     refine HQ.out.mono ?_
     rintro e w2 ⟨rfl,hx2⟩
     have HX2:=hid (HX.out.trans hx2)
     clear hx2 c0 d0
     go_wp2_with fail
     go_roundg (xs.length - (k + 1))
     case measure=>have:=Hg.out;omega
     case rel=>exact ⟨k + 1,by omega,rfl,by first | rfl | go_num,HX2,hid (by rw [E1.out,E2.out,heq.out,of_decide_eq_true HB.out])⟩
    | false =>
     have HNE:Hid (xs.map Prod.snd ≠ ys.map Prod.snd):=hid (fun h=>by
      have h1:=E1.out
      have h2:=E2.out
      rw [h,h2] at h1
      have:=List.append_cancel_left h1
      simp only [List.cons.injEq,and_true] at this
      exact of_decide_eq_false HB.out this.symm)
     go_wp2_with fail
     refine HQ.out.mono ?_
     rintro e w2 ⟨rfl,hx2⟩
     have HX2:=hid (HX.out.trans hx2)
     clear hx2 c0 d0
     go_wp2_with fail
     go_ret
     exact ⟨ret_bool (decide_eq_false HNE.out).symm,HX2.out⟩
   ·have he:k = xs.length:=by omega
    have HEQ:Hid (xs.map Prod.snd = ys.map Prod.snd):=hid (by
     have h:=heq.out
     rw [he,List.take_of_length_le (by simp),Hlen.out,List.take_of_length_le (by simp)] at h
     exact h)
    clear he
    go_wp2_with fail
    go_ret
    exact ⟨ret_bool (decide_eq_true HEQ.out).symm,HX.out⟩
 ·have hne:((xs.length:Int) != (ys.length:Int)) = true:=by simp;omega
  have HNE:Hid (xs.map Prod.snd ≠ ys.map Prod.snd):=hid (fun h=>hlen (by have:=congrArg List.length h;simpa using this))
  clear hlen
  go_enter Tryz.func32,Tryz.ntmps32
  go_wp2_with fail
  go_ret
  exact ⟨ret_bool (decide_eq_false HNE.out).symm,Ext.refl _⟩
end

/- The goal of a pattern, led back, and with more names: plain. -/
section
theorem findF_getD {T:List ByteArray} {s:ByteArray} (h:0 ≤ findF T s):T.getD (findF T s).toNat nilB = s:=by
 obtain ⟨k,hk⟩:=Int.eq_ofNat_of_zero_le h
 obtain ⟨h1,h2,_⟩:=findF_yes.1 hk
 rw [hk]
 simp [List.getD,h1,h2]
theorem nameO_id {D:Dic} {k:Nat} {s:ByteArray} (hk:k < 5) (h:0 ≤ idF D k s):nameO D k (idF D k s) = some s:=by
 have e:idF D k s = findF (D k).1 s:=by unfold idF;rw [if_pos (by omega)];rfl
 rw [e] at h ⊢
 have:=findF_range (D k).1 s
 unfold nameO
 rw [if_pos ⟨h,by omega⟩,findF_getD h]
theorem termF_arg {D:Dic} {V:List ByteArray} {k:Bool} {s:ByteArray} {x:Arg} (h:argF D V k s = some x) (hin:k = false → s ∈ V):termF D V x = some (k,s):=by
 unfold argF at h
 cases k with
 | true =>
  rw [if_pos rfl] at h
  split at h
  ·rename_i h0
   cases h
   unfold termF
   dsimp only
   rw [if_pos rfl,show nameO D 0 (idF D 0 s) = some s from nameO_id (k:=0) (by omega) h0]
   rfl
  ·cases h
 | false =>
  rw [if_neg (by simp)] at h
  cases h
  have h0:findF V s ≠ -1:=fun e=>findF_no.1 e (hin rfl)
  have h1:=findF_range V s
  have h2:0 ≤ findF V s:=by omega
  unfold termF
  dsimp only
  rw [if_neg (by omega),if_pos ⟨h2,by omega,rfl⟩,findF_getD h2]
theorem preF_sup {α β:Type} {f g:α → Option β} {l:List α} (h:∀ a ∈ l,∀ b,f a = some b → g a = some b) (hl:(preF f l).2 = true):preF g l = preF f l:=by
 induction l with
 | nil=>rfl
 | cons a l ih =>
  cases hf:f a with
  | none=>simp only [preF,hf] at hl;cases hl
  | some b =>
   simp only [preF,hf] at hl
   have:=ih (fun a ha=>h a (List.mem_cons_of_mem _ ha)) hl
   simp only [preF,hf,h a (List.mem_cons_self ..) b hf,this]
theorem textsO_map {V l:List ByteArray} (h:∀ s ∈ l,s ∈ V):textsO V (l.map (findF V)) = some l:=by
 have hp:preF (textO V) (l.map (findF V)) = (l,true):=by
  induction l with
  | nil=>rfl
  | cons s l ih =>
   have h0:findF V s ≠ -1:=fun e=>findF_no.1 e (h s (List.mem_cons_self ..))
   have h1:=findF_range V s
   have h2:0 ≤ findF V s:=by omega
   rw [List.map_cons,preF,show textO V (findF V s) = some s from by unfold textO;rw [if_pos ⟨h2,by omega⟩,findF_getD h2]]
   dsimp only
   rw [ih (fun s hs=>h s (List.mem_cons_of_mem _ hs))]
 unfold textsO
 rw [hp]
 rfl
theorem goalF_some {D:Dic} {P:Pat} {G:Gol} (h:goalF D P = some G):(bndsF D (varsS P.atoms) P.atoms).2 = true ∧ G = golOf P (bndsF D (varsS P.atoms) P.atoms).1:=by
 unfold goalF at h
 split at h
 ·rename_i hb;cases h;exact ⟨hb,rfl⟩
 ·cases h
theorem BackR.of {D:Dic} {G:Gol} {P:Pat} (hok:DicOK D) (hb:backF D G = some P) {Q:Pat} {c:Int} (h:BackR D G Q c):Q = P ∧ c = 0:=by
 cases h with
 | dict h=>exact absurd hok h
 | goal h h'=>rw [hb] at h';cases h'
 | ok h h'=>rw [hb] at h';cases h';exact ⟨rfl,rfl⟩
end

/- Several structs are made by calls, each kept in a box of its own, in one statement: whatever order the calls, the boxes and the stores come in. No program in sight. -/
section
open Go.RowKit Go.Sort
structure FirmN (n:Nat) (T:Nat → TypeId) (O:Nat → World → Value → Prop):Prop where
 ext:∀ i,i < n → ∀ {W W':World} {c:Value},Ext W W' → O i W c → O i W' c
 row:∀ i j,i < n → j < n → ∀ {W:World} {g:Nat} {ys:List Value} {c:Value} (xs:Array Value),RowAt W g (T j) ys → O i W c → O i (W.setRow g xs) c
structure ManyF (n:Nat) (w0:World) (V:Nat → Value) (O:Nat → World → Value → Prop) (T:Nat → TypeId) (z:Nat → List Value) (S:Nat → Bool) (us:List Value) (W:World):Prop where
 len:us.length = 3 * n
 ext:Ext w0 W
 a:∀ i,i < n → S (2 * i) = true → us[2 * i]? = some (V i)
 b:∀ i,i < n → S (2 * i + 1) = true → ∃ c,us[2 * i + 1]? = some c ∧ O i W c
 d:∀ i,i < n → S (2 * n + i) = true → ∃ g cs,us[2 * n + i]? = some (.pointer (some ⟨g,0,none⟩)) ∧ w0.heap.size ≤ g ∧ RowAt W g (T i) cs ∧ (S (3 * n + i) = true → us[2 * i + 1]? = some (.agg cs.toArray)) ∧ (S (3 * n + i) = false → cs = z i)
 ne:∀ i j,i < n → j < n → i ≠ j → S (2 * n + i) = true → S (2 * n + j) = true → us[2 * n + i]? ≠ us[2 * n + j]?
 ds:∀ i,i < n → S (3 * n + i) = true → S (2 * i + 1) = true ∧ S (2 * n + i) = true
section
variable {n:Nat} {w0:World} {V:Nat → Value} {O:Nat → World → Value → Prop} {T:Nat → TypeId} {z:Nat → List Value} {S:Nat → Bool} {us:List Value} {W:World}
theorem ManyF.start (hl:us.length = 3 * n) (hx:Ext w0 W):ManyF n w0 V O T z (fun _=>false) us W:=⟨hl,hx,nofun,nofun,nofun,nofun,nofun⟩
theorem ManyF.load (h:ManyF n w0 V O T z S us W) {i:Nat} (hi:i < n):ManyF n w0 V O T z (updB S (2 * i)) (us.set (2 * i) (V i)) W:=by
 have hl:=h.len
 have sn:∀ k,k ≠ 2 * i → (us.set (2 * i) (V i))[k]? = us[k]?:=fun k hk=>List.getElem?_set_ne (Ne.symm hk)
 refine ⟨by rw [List.length_set];exact hl,h.ext,fun j hj hS=>?_,fun j hj hS=>?_,fun j hj hS=>?_,fun j k hj hk hne h1 h2=>?_,fun j hj hS=>?_⟩
 ·by_cases e:j = i
  ·subst e;rw [List.getElem?_set_self (by omega)]
  ·rw [updB_ne S (by omega)] at hS
   rw [sn _ (by omega)];exact h.a j hj hS
 ·rw [updB_ne S (by omega)] at hS
  rw [sn _ (by omega)];exact h.b j hj hS
 ·rw [updB_ne S (by omega)] at hS
  rw [sn _ (by omega),sn _ (by omega),updB_ne S (by omega)];exact h.d j hj hS
 ·rw [updB_ne S (by omega)] at h1 h2
  rw [sn _ (by omega),sn _ (by omega)];exact h.ne j k hj hk hne h1 h2
 ·rw [updB_ne S (by omega)] at hS ⊢
  rw [updB_ne S (by omega)]
  exact h.ds j hj hS
theorem ManyF.call (h:ManyF n w0 V O T z S us W) (F:FirmN n T O) {i:Nat} (hi:i < n) (hn:S (2 * i + 1) = false) {W':World} {u:Value} (hx:Ext W W') (ho:O i W' u):ManyF n w0 V O T z (updB S (2 * i + 1)) (us.set (2 * i + 1) u) W':=by
 have hl:=h.len
 have sn:∀ k,k ≠ 2 * i + 1 → (us.set (2 * i + 1) u)[k]? = us[k]?:=fun k hk=>List.getElem?_set_ne (Ne.symm hk)
 refine ⟨by rw [List.length_set];exact hl,h.ext.trans hx,fun j hj hS=>?_,fun j hj hS=>?_,fun j hj hS=>?_,fun j k hj hk hne h1 h2=>?_,fun j hj hS=>?_⟩
 ·rw [updB_ne S (by omega)] at hS
  rw [sn _ (by omega)];exact h.a j hj hS
 ·by_cases e:j = i
  ·subst e;exact ⟨u,by rw [List.getElem?_set_self (by omega)],ho⟩
  ·rw [updB_ne S (by omega)] at hS
   rw [sn _ (by omega)]
   obtain ⟨c,e1,e2⟩:=h.b j hj hS
   exact ⟨c,e1,F.ext j hj hx e2⟩
 ·rw [updB_ne S (by omega)] at hS
  obtain ⟨g,cs,e1,e2,e3,e4,e5⟩:=h.d j hj hS
  refine ⟨g,cs,by rw [sn _ (by omega)];exact e1,e2,e3.ext hx,fun hs=>?_,fun hs=>?_⟩
  ·rw [updB_ne S (by omega)] at hs
   by_cases e:j = i
   ·subst e;rw [(h.ds j hj hs).1] at hn;cases hn
   ·rw [sn _ (by omega)];exact e4 hs
  ·rw [updB_ne S (by omega)] at hs
   exact e5 hs
 ·rw [updB_ne S (by omega)] at h1 h2
  rw [sn _ (by omega),sn _ (by omega)];exact h.ne j k hj hk hne h1 h2
 ·rw [updB_ne S (by omega)] at hS
  rw [updB_ne S (show 2 * n + j ≠ 2 * i + 1 by omega)]
  refine ⟨?_,(h.ds j hj hS).2⟩
  by_cases e:j = i
  ·subst e;exact updB_at S _
  ·rw [updB_ne S (by omega)];exact (h.ds j hj hS).1
theorem ManyF.new (h:ManyF n w0 V O T z S us W) (F:FirmN n T O) {i:Nat} (hi:i < n) (hn:S (2 * n + i) = false) :
 ManyF n w0 V O T z (updB S (2 * n + i)) (us.set (2 * n + i) (.pointer (some ⟨W.heap.size,0,none⟩))) (W.alloc (.cells (z i).toArray (T i))):=by
 have hl:=h.len
 have hx:=Ext.alloc W (.cells (z i).toArray (T i))
 have sn:∀ k,k ≠ 2 * n + i → (us.set (2 * n + i) (.pointer (some ⟨W.heap.size,0,none⟩)))[k]? = us[k]?:=fun k hk=>List.getElem?_set_ne (Ne.symm hk)
 have ss:(us.set (2 * n + i) (.pointer (some ⟨W.heap.size,0,none⟩)))[2 * n + i]? = some (.pointer (some ⟨W.heap.size,0,none⟩)):=List.getElem?_set_self (by omega)
 refine ⟨by rw [List.length_set];exact hl,h.ext.trans hx,fun j hj hS=>?_,fun j hj hS=>?_,fun j hj hS=>?_,fun j k hj hk hne h1 h2=>?_,fun j hj hS=>?_⟩
 ·rw [updB_ne S (by omega)] at hS
  rw [sn _ (by omega)];exact h.a j hj hS
 ·rw [updB_ne S (by omega)] at hS
  rw [sn _ (by omega)]
  obtain ⟨c,e1,e2⟩:=h.b j hj hS
  exact ⟨c,e1,F.ext j hj hx e2⟩
 ·by_cases e:j = i
  ·subst e
   refine ⟨W.heap.size,z j,ss,h.ext.size,RowAt.new _ _ _,fun hs=>?_,fun _=>rfl⟩
   rw [updB_ne S (by omega)] at hs
   rw [(h.ds j hj hs).2] at hn;cases hn
  ·rw [updB_ne S (by omega)] at hS
   obtain ⟨g,cs,e1,e2,e3,e4,e5⟩:=h.d j hj hS
   refine ⟨g,cs,by rw [sn _ (by omega)];exact e1,e2,e3.ext hx,fun hs=>?_,fun hs=>?_⟩
   ·rw [updB_ne S (by omega)] at hs
    rw [sn _ (by omega)];exact e4 hs
   ·rw [updB_ne S (by omega)] at hs
    exact e5 hs
 ·have key:∀ j,j < n → j ≠ i → updB S (2 * n + i) (2 * n + j) = true → us[2 * n + j]? ≠ some (.pointer (some ⟨W.heap.size,0,none⟩)):=fun j hj hji hS he=>by
   rw [updB_ne S (by omega)] at hS
   obtain ⟨g,cs,e1,_,e3,_⟩:=h.d j hj hS
   rw [he] at e1
   cases e1
   exact absurd e3.lt (Nat.lt_irrefl _)
  by_cases e:j = i
  ·subst e
   rw [ss,sn _ (by omega)]
   exact fun he=>key k hk (Ne.symm hne) h2 he.symm
  ·by_cases e':k = i
   ·subst e'
    rw [ss,sn _ (by omega)]
    exact key j hj e h1
   ·rw [updB_ne S (by omega)] at h1 h2
    rw [sn _ (by omega),sn _ (by omega)];exact h.ne j k hj hk hne h1 h2
 ·rw [updB_ne S (by omega)] at hS
  refine ⟨by rw [updB_ne S (by omega)];exact (h.ds j hj hS).1,?_⟩
  by_cases e:j = i
  ·subst e;exact updB_at S _
  ·rw [updB_ne S (by omega)];exact (h.ds j hj hS).2
theorem ManyF.store (h:ManyF n w0 V O T z S us W) (F:FirmN n T O) {i:Nat} (hi:i < n) (h1:S (2 * i + 1) = true) (h4:S (2 * n + i) = true) (hn:S (3 * n + i) = false) {g:Nat} (hx:us[2 * n + i]? = some (.pointer (some ⟨g,0,none⟩))) {xs:List Value} (hc:us[2 * i + 1]? = some (.agg xs.toArray)) :
 ManyF n w0 V O T z (updB S (3 * n + i)) us (W.setRow g xs.toArray):=by
 obtain ⟨g',cs,e1,e2,e3,_,_⟩:=h.d i hi h4
 rw [hx] at e1
 cases e1
 refine ⟨h.len,below_setRow h.ext e2 _,fun j hj hS=>?_,fun j hj hS=>?_,fun j hj hS=>?_,fun j k hj hk hne q1 q2=>?_,fun j hj hS=>?_⟩
 ·rw [updB_ne S (by omega)] at hS;exact h.a j hj hS
 ·rw [updB_ne S (by omega)] at hS
  obtain ⟨c,f1,f2⟩:=h.b j hj hS
  exact ⟨c,f1,F.row j i hj hi _ e3 f2⟩
 ·rw [updB_ne S (by omega)] at hS
  by_cases e:j = i
  ·subst e
   refine ⟨g,xs,hx,e2,e3.setRow xs,fun _=>hc,fun hs=>?_⟩
   rw [updB_at] at hs;cases hs
  ·obtain ⟨g2,cs2,f1,f2,f3,f4,f5⟩:=h.d j hj hS
   have hg:g2 ≠ g:=fun he=>h.ne j i hj hi e hS h4 (by rw [f1,hx,he])
   refine ⟨g2,cs2,f1,f2,(setRow_other W g g2 _ hg).trans f3,fun hs=>?_,fun hs=>?_⟩
   ·rw [updB_ne S (by omega)] at hs;exact f4 hs
   ·rw [updB_ne S (by omega)] at hs;exact f5 hs
 ·rw [updB_ne S (by omega)] at q1 q2;exact h.ne j k hj hk hne q1 q2
 ·by_cases e:j = i
  ·subst e
   rw [updB_ne S (by omega),updB_ne S (by omega)]
   exact ⟨h1,h4⟩
  ·rw [updB_ne S (by omega)] at hS
   rw [updB_ne S (by omega),updB_ne S (by omega)]
   exact h.ds j hj hS
theorem ManyF.old (h:ManyF n w0 V O T z S us W) {i:Nat} (hi:i < n) (h4:S (2 * n + i) = true) (hn:S (3 * n + i) = false) {u:Value} (hu:us[2 * n + i]? = some u):∃ g,u = .pointer (some ⟨g,0,none⟩) ∧ RowAt W g (T i) (z i):=by
 obtain ⟨g,cs,e1,_,e3,_,e5⟩:=h.d i hi h4
 rw [hu] at e1
 obtain rfl:=e5 hn
 exact ⟨g,Option.some.inj e1,e3⟩
theorem ManyF.val (h:ManyF n w0 V O T z S us W) {i:Nat} (hi:i < n) (hS:S (2 * i + 1) = true) {u:Value} (hu:us[2 * i + 1]? = some u):O i W u:=by
 obtain ⟨c,e1,e2⟩:=h.b i hi hS
 rw [hu] at e1
 cases e1
 exact e2
theorem ManyF.fin (h:ManyF n w0 V O T z S us W) {i:Nat} (hi:i < n) (hS:∀ k,k < 4 * n → S k = true) {c x:Value} (hc:us[2 * i + 1]? = some c) (hx:us[2 * n + i]? = some x):O i W c ∧ ∃ g cs,x = .pointer (some ⟨g,0,none⟩) ∧ c = .agg cs.toArray ∧ w0.heap.size ≤ g ∧ RowAt W g (T i) cs:=by
 refine ⟨h.val hi (hS _ (by omega)) hc,?_⟩
 obtain ⟨g,cs,e1,e2,e3,e4,_⟩:=h.d i hi (hS _ (by omega))
 have e6:=e4 (hS _ (by omega))
 rw [hx] at e1
 rw [hc] at e6
 exact ⟨g,cs,Option.some.inj e1,Option.some.inj e6,e2,e3⟩
end
end

/- A dictionary and a pattern of the law's own, each in a box. -/
section
open Go.RowKit Go.Shelf Go.Sort
attribute [local go_sem] Oper.semAt_some wide_fn wide_depth
theorem PatOwn.ext {B:Nat} {w w':World} {v:Value} {P:Pat} (h:PatOwn B w v P) (hx:Ext w w'):PatOwn B w' v P:=by
 obtain ⟨av,rv,hv,e,h1,h2,h3⟩:=h
 exact ⟨av,rv,hv,e,own_ext h1 hx,own_ext h2 hx,own_ext h3 hx⟩
theorem PatOwn.base {B B':Nat} {w:World} {v:Value} {P:Pat} (h:PatOwn B w v P) (hb:B' ≤ B):PatOwn B' w v P:=by
 obtain ⟨av,rv,hv,e,h1,h2,h3⟩:=h
 exact ⟨av,rv,hv,e,own_base h1 hb,own_base h2 hb,own_base h3 hb⟩
theorem PatOwn.at_ {B:Nat} {W:World} {v:Value} {P:Pat} (h:PatOwn B W v P):PatAt W v P:=by
 obtain ⟨av,rv,hv,e,h1,h2,h3⟩:=h
 exact ⟨av,rv,hv,e,Sl.of_own h1,Sl.of_own h2,Sl.of_own h3⟩
theorem PatOwn.turn {B g:Nat} {W W':World} {v:Value} {P:Pat} {t:TypeId} {xs:List Value} (h:PatOwn B W v P) (hr:RowAt W g t xs) (h1:9 ≠ t) (h2:88 ≠ t) (hg:W.grownBy W' (some g)):PatOwn B W' v P:=by
 obtain ⟨av,rv,hv,e,a1,a2,a3⟩:=h
 exact ⟨av,rv,hv,e,own_turn a1 hr h2 hg,own_turn a2 hr h1 hg,own_turn a3 hr h1 hg⟩
theorem PatOwn.shape {B:Nat} {W:World} {v:Value} {P:Pat} (h:PatOwn B W v P):∃ a1 c1 a2 c2 a3 c3,v = patV (.slice a1 P.atoms.length c1) (.slice a2 P.ret.length c2) (.slice a3 P.hint.length c3) P:=by
 obtain ⟨av,rv,hv,rfl,h1,h2,h3⟩:=h
 obtain ⟨a1,c1,rfl⟩:=own_vw h1
 obtain ⟨a2,c2,rfl⟩:=own_vw h2
 obtain ⟨a3,c3,rfl⟩:=own_vw h3
 exact ⟨_,_,_,_,_,_,rfl⟩
theorem GolIn.base {B B':Nat} {w:World} {v:Value} {G:Gol} (h:GolIn B w v G) (hb:B' ≤ B):GolIn B' w v G:=by
 obtain ⟨vv,av,rv,hv,e,h1,h2,h3,h4⟩:=h
 exact ⟨vv,av,rv,hv,e,own_base h1 hb,own_base h2 hb,own_base h3 hb,own_base h4 hb⟩
theorem GolIn.shape {B:Nat} {W:World} {v:Value} {G:Gol} (h:GolIn B W v G):∃ a1 c1 a2 c2 a3 c3 a4 c4,v = golV (.slice a1 G.vars.length c1) (.slice a2 G.atoms.length c2) (.slice a3 G.ret.length c3) (.slice a4 G.hint.length c4) G:=by
 obtain ⟨vv,av,rv,hv,rfl,h1,h2,h3,h4⟩:=h
 obtain ⟨a1,c1,rfl⟩:=own_vw h1
 obtain ⟨a2,c2,rfl⟩:=own_vw h2
 obtain ⟨a3,c3,rfl⟩:=own_vw h3
 obtain ⟨a4,c4,rfl⟩:=own_vw h4
 exact ⟨_,_,_,_,_,_,_,_,rfl⟩
theorem DicOwn.heads {B:Nat} {W:World} {us:Nat → Value × Value} {D:Dic} (h:DicOwn B W us D):∃ A:Heads,DicOwn B W (hv A) D ∧ dv us = dv (hv A):=by
 obtain ⟨A,hA1,hA2⟩:=Go.Proofs.YtkmbnghghbfkdaaGreat.heads (vs:=us) (fun i hi=>by obtain ⟨a,c,b,d,e,_⟩:=(h i hi).pair;exact ⟨_,_,_,_,_,_,e⟩)
 exact ⟨A,fun i hi=>by rw [← hA1 i hi];exact h i hi,by unfold dv;rw [hA2]⟩
theorem nine9 {l:List Value} (h:l.length = 3 * 3):∃ u0 u1 u2 u3 u4 u5 u6 u7 u8,l = [u0,u1,u2,u3,u4,u5,u6,u7,u8]:=by
 match l,h with
 | [u0,u1,u2,u3,u4,u5,u6,u7,u8],_=>exact ⟨u0,u1,u2,u3,u4,u5,u6,u7,u8,rfl⟩
theorem PatAt.parts {w:World} {a b c:Value} {P:Pat} (h:PatAt w (patV a b c P) P):Ats w a P.atoms ∧ Strs w b P.ret ∧ Strs w c P.hint:=by
 obtain ⟨av,rv,hv,e,h1,h2,h3⟩:=h
 unfold patV patL at e
 simp only [Value.agg.injEq,Array.mk.injEq,List.cons.injEq] at e
 obtain ⟨rfl,rfl,_,_,_,_,_,rfl,_⟩:=e
 exact ⟨h1,h2,h3⟩
theorem backN (A:Heads) (D:Dic) (G:Gol) (gs:List Value) (w:World) (hV:DicV w (hv A) D) (hS:DicS D) (hG:GolAt w (.agg gs.toArray) G) (hf:G.Fits) :
 Calls Tryz.prog 21 #[.agg (dcells (hv A)).toArray,.agg gs.toArray] w fun e w'=>∃ P c q1 d1 q2 d2 q3 d3,e = .returned (.tuple #[.agg (patL (.slice q1 P.atoms.length d1) (.slice q2 P.ret.length d2) (.slice q3 P.hint.length d3) P).toArray,.int .i64 c]) ∧
  BackR D G P c ∧ PatOwn w.heap.size w' (patV (.slice q1 P.atoms.length d1) (.slice q2 P.ret.length d2) (.slice q3 P.hint.length d3) P) P ∧ Ext w w':=by
 refine (back_any A D G _ w hV hS hG hf).mono ?_
 rintro e w' ⟨pv,P,c,he,ho,hg,hx⟩
 obtain ⟨a1,c1,a2,c2,a3,c3,rfl⟩:=hg.shape
 exact ⟨P,c,_,_,_,_,_,_,he,ho,hg,hx⟩
theorem checkN (A:Heads) (D:Dic) (G:Gol) (gs:List Value) (w:World) (hV:DicV w (hv A) D) (hS:DicS D) (hG:GolAt w (.agg gs.toArray) G) (hf:G.Fits) :
 Calls Tryz.prog 20 #[.agg (dcells (hv A)).toArray,.agg gs.toArray] w (CkGQ w D G):=checkG_any A D G _ w hV hS hG hf
theorem termS_from {T:List ByteArray} {t:Bool × ByteArray} {s:ByteArray} (h:s ∈ termS T t):s ∈ T ∨ s = t.2:=by
 unfold termS at h
 split at h
 ·exact .inl h
 ·rcases List.mem_append.1 h with h | h
  ·exact .inl h
  ·exact .inr (List.mem_singleton.1 h)
theorem varsS_of {s:ByteArray} (l:List Atm) (T:List ByteArray) (h:s ∈ l.foldl (fun T a=>termS (termS T (a.fk,a.fn)) (a.tk,a.tn)) T):s ∈ T ∨ ∃ a ∈ l,s = a.fn ∨ s = a.tn:=by
 induction l generalizing T with
 | nil=>exact .inl h
 | cons a l ih =>
  rcases ih _ h with h | ⟨b,hb,h⟩
  ·rcases termS_from h with h | h
   ·rcases termS_from h with h | h
    ·exact .inl h
    ·exact .inr ⟨a,List.mem_cons_self ..,.inl h⟩
   ·exact .inr ⟨a,List.mem_cons_self ..,.inr h⟩
  ·exact .inr ⟨b,List.mem_cons_of_mem _ hb,h⟩
theorem golOf_fits {D:Dic} {P:Pat} {G:Gol} (hok:P.okB = true) (hf:P.Fits) (hg:goalF D P = some G):G.Fits ∧ G.atoms.length = P.atoms.length ∧ P.atoms.length ≤ 40:=by
 obtain ⟨hb,rfl⟩:=goalF_some hg
 obtain ⟨⟨_,k1⟩,k2,k3,k4,_,_⟩:=okB_parts hok
 have hlen:(bndsF D (varsS P.atoms) P.atoms).1.length = P.atoms.length:=by
  have:=preF_len (bndF D (varsS P.atoms)) P.atoms
  unfold bndsF at hb ⊢
  exact this.2 hb
 have r1:=chosenB_len k3
 have r2:=chosenB_len k4
 refine ⟨⟨⟨?_,?_,?_,?_⟩,fun s hs=>?_⟩,hlen,k1⟩
 ·show (bndsF D (varsS P.atoms) P.atoms).1.length ≤ _
  omega
 ·show (List.map _ (if P.ret = [] then varsS P.atoms else P.ret)).length ≤ _
  rw [List.length_map]
  split <;> omega
 ·show (List.map _ P.hint).length ≤ _
  rw [List.length_map];omega
 ·show (varsS P.atoms).length ≤ _
  omega
 ·rcases varsS_of P.atoms [] hs with h | ⟨a,ha,h⟩
  ·cases h
  ·have:=hf.atoms a ha
   rcases h with rfl | rfl
   ·exact this.fn
   ·exact this.tn
section
variable {P:Program} {Q:Exit → Act → World → Prop} {ops:Array Oper} {o:Oper} {a:Act} {w:World} {X:List Nat} {ks:Nat → Gro} {i:Nat} {r:List Nat}
theorem groX_loadW (ho:ops[i]? = some o) (hk:ks i = .read) (hwt:Region.wanted o (yielded ops a.tmps) = true) (ty:TypeId) (x:Operand) (hop:o.op = .load ty x) (b off:Nat) (hx:a.eval x = .pointer (some ⟨b,off,none⟩)) (cs:List Value) (d:TypeDesc) (hc:w.rangeAt b off cs) (hb:b ∉ X)
 (hu:P.underlying ty = some d) (hd:d.isRow = true) (hi:(P.info? ty).map (·.size) = some cs.length)
 (h:GroX X P ops Q ks r (a.put o.dst (.agg cs.toArray)) w):GroX X P ops Q ks (i :: r) a w:=by
 refine groX_read ho hk fun K S hS hK=>?_
 rw [if_pos hwt]
 have hq:∀ w',w'.rangeAt b off cs → o.quietAt P a (fun x=>x = w') w' (.agg cs.toArray):=fun w' hc'=>by
  unfold Oper.quietAt execOp
  simp only [hop,hx,Instr.loadAt,Instr.sureAddr,Sem.run_bind,Sem.run_pure,Result.andThen_ok,run_loadVar_mid w' b off ty cs d hc' hu hd hi]
  simp [Oper.quietUpon]
 exact ⟨_,hq w hc,hS _ (fun w' hg=>hq w' (hg.range hc hb)),hK _ h⟩
end
end

end Go.Proofs.YtkmbnghghbfkdaaGreat
