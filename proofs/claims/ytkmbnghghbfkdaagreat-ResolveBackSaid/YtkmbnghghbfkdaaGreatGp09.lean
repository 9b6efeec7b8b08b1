/- Dictionaries: five tables; the tables of all kinds, told one by one. -/
import Derived.Test.YtkmbnghghbfkdaaGreatGp08
import Derived.Test.YtkmbnghghbfkdaaGreatGp07
import Derived.Test.YtkmbnghghbfkdaaGreatGp02
import Derived.Test.YtkmbnghghbfkdaaGreatGp06
import Derived.Shelf.RegionOpen
set_option linter.unusedSimpArgs false
set_option linter.unusedVariables false
set_option maxHeartbeats 2000000
set_option maxRecDepth 100000
namespace Go.Proofs.YtkmbnghghbfkdaaGreat
open Go.Lib (hid)

section
open Go.RowKit Go.Shelf
attribute [local go_sem] Oper.semAt_some wide_fn wide_depth
def dcells (vs:Nat → Value × Value):List Value:=[(vs 0).1,(vs 0).2,(vs 1).1,(vs 1).2,(vs 2).1,(vs 2).2,(vs 3).1,(vs 3).2,(vs 4).1,(vs 4).2]
def dv (vs:Nat → Value × Value):Value:=.agg (dcells vs).toArray
abbrev Dic:=Nat → List ByteArray × List Int
def TabV (w:World) (v:Value × Value) (t:List ByteArray × List Int):Prop:=∃ a n c b m d,v = (.slice a n c,.slice b m d) ∧ Strs w (.slice a n c) t.1 ∧ Ints w .i64 (.slice b m d) t.2
def DicV (w:World) (vs:Nat → Value × Value) (D:Dic):Prop:=∀ i,i < 5 → TabV w (vs i) (D i)
theorem TabV.ext {w w':World} {v:Value × Value} {t:List ByteArray × List Int} (h:TabV w v t) (hx:Ext w w'):TabV w' v t:=by
 obtain ⟨a,n,c,b,m,d,e,h1,h2⟩:=h
 exact ⟨a,n,c,b,m,d,e,h1.ext hx,h2.ext hx⟩
theorem DicV.ext {w w':World} {vs:Nat → Value × Value} {D:Dic} (h:DicV w vs D) (hx:Ext w w'):DicV w' vs D:=fun i hi=>(h i hi).ext hx
def DicS (D:Dic):Prop:=∀ i,i < 5 → (D i).1.length ≤ 4096 ∧ (D i).2.length ≤ 4096 ∧ ∀ s ∈ (D i).1,s.size ≤ 9223372036854775807
theorem ix_any (vs:Nat → Value × Value) (k:Nat) (h:k < 5) (w:World):(Instr.index 26 (.agg #[(vs 0).1,(vs 0).2,(vs 1).1,(vs 1).2,(vs 2).1,(vs 2).2,(vs 3).1,(vs 3).2,(vs 4).1,(vs 4).2]) (.int .i64 k)).run Tryz.prog w = .ok (.agg #[(vs k).1,(vs k).2]) w:=by
 have hc:k = 0 ∨ k = 1 ∨ k = 2 ∨ k = 3 ∨ k = 4:=by omega
 rcases hc with rfl | rfl | rfl | rfl | rfl <;> rfl
theorem RowAt.facts10 {w:World} {g:Nat} {t:TypeId} {vs:Nat → Value × Value} (h:RowAt w g t (dcells vs)):w.cell? ⟨g,0,none⟩ = some (vs 0).1 ∧ w.cell? ⟨g,1,none⟩ = some (vs 0).2 ∧ w.cell? ⟨g,2,none⟩ = some (vs 1).1 ∧ w.cell? ⟨g,3,none⟩ = some (vs 1).2 ∧ w.cell? ⟨g,4,none⟩ = some (vs 2).1 ∧ w.cell? ⟨g,5,none⟩ = some (vs 2).2 ∧ w.cell? ⟨g,6,none⟩ = some (vs 3).1 ∧ w.cell? ⟨g,7,none⟩ = some (vs 3).2 ∧ w.cell? ⟨g,8,none⟩ = some (vs 4).1 ∧ w.cell? ⟨g,9,none⟩ = some (vs 4).2 :=
 ⟨h.cell (i:=0) rfl,h.cell (i:=1) rfl,h.cell (i:=2) rfl,h.cell (i:=3) rfl,h.cell (i:=4) rfl,h.cell (i:=5) rfl,h.cell (i:=6) rfl,h.cell (i:=7) rfl,h.cell (i:=8) rfl,h.cell (i:=9) rfl⟩
theorem kinds_any (vs:Nat → Value × Value) (w:World):Calls Tryz.prog 76 #[dv vs] w fun e w' =>
 e = .returned (.func (.func 109) #[] #[.pointer (some ⟨w.heap.size,0,none⟩)]) ∧ w' = w.alloc (.cells (dcells vs).toArray 28):=by
 unfold dv dcells
 go_enter Tryz.func76,Tryz.ntmps76
 go_wp2
 go_ret
 exact ⟨rfl,rfl⟩
theorem kinds_iter (vs:Nat → Value × Value) (x:Nat) (hsh:∀ i,i < 5 → ∃ a n c b m d,vs i = (.slice a n c,.slice b m d)) :
 IterI Tryz.prog 109 #[.pointer (some ⟨x,0,none⟩)] (fun W=>RowAt W x 28 (dcells vs)) 5 (fun k _ args=>args = #[.int .i64 k,.agg #[(vs k).1,(vs k).2]]):=by
 intro L W J Js hB hJ hJs hround h0
 refine callsIn_of_wp Tryz.func109 rfl trivial ?_
 simp only [Tryz.ntmps109,List.size_toArray,List.length_cons,List.length_nil,Nat.reduceAdd,Nat.reduceSub,Array.replicate_succ,Array.replicate_zero,List.push_toArray,List.append_toArray,List.nil_append,List.cons_append]
 have hr0:=hB 0 W h0
 obtain ⟨c0,c1,c2,c3,c4,c5,c6,c7,c8,c9⟩:=hr0.facts10
 have HIX:=hid (ix_any vs)
 have HJ:=hid hJ
 clear hr0
 gi_wp2_with fail
 clear c0 c1 c2 c3 c4 c5 c6 c7 c8 c9
 gi_loopw [7] (fun i wr=>∃ k:Nat,k ≤ 5 ∧ i = .int .i64 k ∧ J k wr) (fun i _=>5 - (intOf i).toNat)
 case atStart=>exact ⟨0,Nat.zero_le _,rfl,h0⟩
 case round =>
  obtain ⟨k,hk,rfl,hj⟩:=hrel
  by_cases hlt:k < 5
  ·have ix:=HIX.out k hlt
   obtain ⟨a,n,c,b,m,d,hv⟩:=hsh k hlt
   rw [hv] at ix
   dsimp only at ix
   obtain ⟨fn',tmps',assign',body',hy,hR⟩:=hround k #[.int .i64 k,.agg #[.slice a n c,.slice b m d]] (wr.alloc (.cells #[.slice a n c,.slice b m d] 25)) hlt (HJ.out _ _ _ hj (Ext.alloc _ _)) (by rw [hv])
   gi_wp2_with fail
   refine hR.mono ?_
   rintro e W3 (⟨rfl,hj3⟩ | ⟨rfl,hj3⟩)
   ·gi_wp2
    exact ⟨⟨k + 1,by omega,by go_num,hj3⟩,by simp [intOf];omega⟩
   ·gi_wp2
    exact bodyPost_ret (results_none rfl _ _ _) rfl ⟨⟨_,rfl⟩,.inr hj3⟩
  ·gi_wp2
   go_end0
   exact ⟨⟨_,rfl⟩,.inl (by rw [show 5 = k from by omega];exact hj)⟩
end

/- Is one of the texts no name of its kind? -/
section
open Go.RowKit Go.Shelf
def badB (k:Int) (T:List ByteArray):Bool:=T.any (fun s=>!(mayB k (bts s)))
theorem badB_take (k:Int) (T:List ByteArray) (i:Nat) (h:i < T.length):badB k (T.take (i + 1)) = (badB k (T.take i) || !(mayB k (bts T[i]))):=by
 unfold badB
 rw [take_snoc T i h,List.any_append];simp
theorem badB_mem {k:Int} {T:List ByteArray} {i:Nat} (h:i < T.length) (hb:mayB k (bts T[i]) = false):badB k T = true:=by
 unfold badB
 rw [List.any_eq_true]
 exact ⟨T[i],List.getElem_mem h,by rw [hb];rfl⟩
theorem bad_any (k:Int) (x:Nat) (s:ByteArray) (w:World) (hs:s.size ≤ 9223372036854775807) (hx:w.cell? ⟨x,0,none⟩ = some (.int .i64 k)) :
 Calls Tryz.prog 77 #[.string s,.pointer (some ⟨x,0,none⟩)] w fun e w'=>e = .returned (.bool (!(mayB k (bts s)))) ∧ Ext w w':=by
 have hm:=may_any k s w hs
 generalize mayB k (bts s) = b at *
 have HM:=hid hm
 clear hm
 go_enter Tryz.func77,Tryz.ntmps77
 go_wp2_with fail
 refine HM.out.mono ?_
 rintro e w1 ⟨rfl,hx1⟩
 cases b
 all_goals
  go_wp2_with fail
  go_ret
  exact ⟨rfl,hx1⟩
theorem index_any (k:Int) (x:Nat) (v:Value) (T:List ByteArray) (w:World) (hT:Strs w v T) (hTs:∀ s ∈ T,s.size ≤ 9223372036854775807) (hx:w.cell? ⟨x,0,none⟩ = some (.int .i64 k)) :
 Calls Tryz.prog 111 #[v,.func (.func 77) #[] #[.pointer (some ⟨x,0,none⟩)]] w fun e w'=>∃ r:Int,e = .returned (.int .i64 r) ∧ decide (0 ≤ r) = badB k T ∧ Ext w w':=by
 obtain ⟨a,c,rfl,hc1,hc2⟩:=Sl.shape hT
 have HT:=hid hT
 have HTs:=hid hTs
 clear hT hTs
 go_enter Tryz.func111,Tryz.ntmps111
 go_wp2_with fail
 go_loopg [8] T.length (fun g i wr=>∃ j:Nat,j ≤ T.length ∧ g = T.length - j ∧ i = .int .i64 j ∧ badB k (T.take j) = false ∧ Ext w wr)
 case atStart=>exact ⟨0,Nat.zero_le _,rfl,rfl,rfl,Ext.refl _⟩
 case round =>
  obtain ⟨j,hj,hg,rfl,hb,hxr⟩:=hrel
  have Hg:=hid hg
  have HB:=hid hb
  clear hg hb
  by_cases hlt:j < T.length
  ·obtain ⟨b,o,rfl,c0⟩:=(HT.out.ext hxr).at_ hlt
   have hcx:=ext_cell hxr hx
   have hba:=fun w' (h:Ext w w')=>bad_any k x T[j] w' (HTs.out _ (List.getElem_mem hlt)) (ext_cell h hx)
   have hsn:=badB_take k T j hlt
   have hmem:=fun h=>badB_mem (k:=k) hlt h
   rw [HB.out,Bool.false_or] at hsn
   generalize mayB k (bts T[j]) = m at *
   generalize T[j] = s at *
   have HBA:=hid hba
   have HSN:=hid hsn
   have HMEM:=hid hmem
   clear hba hsn hmem
   cases m with
   | true =>
    go_wp2_with fail
    refine (HBA.out _ hxr).mono ?_
    rintro e w2 ⟨rfl,hx2⟩
    go_wp2_with fail
    go_roundg (T.length - (j + 1))
    case measure=>have:=Hg.out;omega
    case rel=>exact ⟨j + 1,by omega,rfl,by go_num,HSN.out,hxr.trans hx2⟩
   | false =>
    have HF:=hid (HMEM.out rfl)
    go_wp2_with fail
    refine (HBA.out _ hxr).mono ?_
    rintro e w2 ⟨rfl,hx2⟩
    go_wp2_with fail
    go_ret
    exact ⟨j,rfl,by rw [HF.out];exact decide_eq_true (by omega),hxr.trans hx2⟩
  ·have hb:=HB.out
   rw [List.take_of_length_le (by omega)] at hb
   have HF:=hid hb
   clear hb
   go_wp2_with fail
   go_ret
   exact ⟨-1,rfl,by rw [HF.out];rfl,hxr⟩
theorem contains_any (k:Int) (x:Nat) (v:Value) (T:List ByteArray) (w:World) (hT:Strs w v T) (hTs:∀ s ∈ T,s.size ≤ 9223372036854775807) (hx:w.cell? ⟨x,0,none⟩ = some (.int .i64 k)) :
 Calls Tryz.prog 79 #[v,.func (.func 77) #[] #[.pointer (some ⟨x,0,none⟩)]] w fun e w'=>e = .returned (.bool (badB k T)) ∧ Ext w w':=by
 have hi:=index_any k x v T w hT hTs hx
 generalize badB k T = r at *
 have HI:=hid hi
 clear hi
 go_enter Tryz.func79,Tryz.ntmps79
 go_wp2_with fail
 refine HI.out.mono ?_
 rintro e w1 ⟨q,rfl,hq,hx1⟩
 have HQ:=hid hq
 clear hq
 by_cases h:0 ≤ q
 ·go_wp2_with fail
  go_ret
  exact ⟨ret_bool (by rw [← HQ.out];try exact (decide_eq_true h).symm),hx1⟩
 ·go_wp2_with fail
  go_ret
  exact ⟨ret_bool (by rw [← HQ.out];try exact (decide_eq_false h).symm),hx1⟩
end

/- Which dictionaries may be. -/
section
open Go.RowKit Go.Shelf Go.Sort
attribute [local go_sem] Oper.semAt_some wide_fn wide_depth
def KindOK (k:Nat) (t:List ByteArray × List Int):Prop:=TabOK t.1 t.2 ∧ t.1.length ≤ 128 ∧ badB k t.1 = false
def DicOK (D:Dic):Prop:=∀ i,i < 5 → KindOK i (D i)
theorem Stab.rowD (B g:Nat) (t:TypeId) (xs:List Value):Stab B (fun W=>RowAt W g t xs):=fun W W' row h hg hr=>by
 refine h.kept hg (fun e=>?_)
 obtain ⟨_,o,ho,hc⟩:=hr g e
 rw [show W.heap[g]? = _ from h] at ho
 cases ho;cases hc
theorem Stab.belowW (w:World) (B:Nat) (hB:w.heap.size ≤ B):Stab B (fun W=>Below w.heap.size w W):=fun W W' row h hg hr=>h.grown hg h.size (fun k e=>Nat.le_trans hB (hr k e).1)
theorem leave_markedC {P:Program} {fn:Func} {tmps:Array Value} {D:Nat} {W:World} {R:Ending → World → Prop} {v:Value} (hD:W.heap[D]? = some (.deferred (some [])))
 (hr:(results fn tmps).run P (W.putObj D (.deferred none)) = .ok v (W.putObj D (.deferred none))) (h:R (.returned v) (W.putObj D (.deferred none))):bodyPostM Fence.wide 0 P fn R .ret { tmps,defers:=[{ target:=.collected D,args:=#[] }] } W :=
 ⟨by simp,.inl ⟨_,_,rfl,run_takeDeferred hD,⟨_,hr,h⟩⟩⟩
theorem row_mark {W:World} {D g:Nat} {t:TypeId} {xs:List Value} (h:RowAt W g t xs) (hD:W.heap[D]? = some (.deferred (some []))):RowAt (W.putObj D (.deferred none)) g t xs :=
 (World.putObj_heap_other (fun e=>by subst e;rw [show W.heap[_]? = _ from h] at hD;cases hD)).trans h
theorem fst_eq {v:Value × Value} {a:Option Addr} {n c:Nat} {b:Option Addr} {m d:Nat} (h:v = (.slice a n c,.slice b m d)):v.1 = .slice a n c ∧ v.2 = .slice b m d:=by rw [h];exact ⟨rfl,rfl⟩
theorem DicV.shape {w:World} {vs:Nat → Value × Value} {D:Dic} (h:DicV w vs D):∀ i,i < 5 → ∃ a n c b m d,vs i = (.slice a n c,.slice b m d):=fun i hi=>by
 obtain ⟨a,n,c,b,m,d,e,_⟩:=h i hi
 exact ⟨a,n,c,b,m,d,e⟩
structure CkI (w w1:World) (vs:Nat → Value × Value) (D:Dic) (k:Nat) (W:World):Prop where
 ext:Ext w1 W
 arg:RowAt W (w.heap.size + 1 + 1) 28 (dcells vs)
 out:RowAt W (w.heap.size + 1) 40 [.int .i64 0]
 ok:∀ i,i < k → KindOK i (D i)
theorem CkI.stab (w w1:World) (vs:Nat → Value × Value) (D:Dic) (k:Nat):Stab w1.heap.size (CkI w w1 vs D k):=fun W W' row h hg hr =>
 ⟨Stab.ext_ _ W W' row h.ext hg hr,Stab.rowD _ _ _ _ W W' row h.arg hg hr,Stab.rowD _ _ _ _ W W' row h.out hg hr,h.ok⟩
theorem CkI.grow {w w1:World} {vs:Nat → Value × Value} {D:Dic} {k:Nat} {W W':World} (h:CkI w w1 vs D k W) (hx:Ext W W'):CkI w w1 vs D k W' :=
 ⟨h.ext.trans hx,h.arg.ext hx,h.out.ext hx,h.ok⟩
theorem dcheck_any (vs:Nat → Value × Value) (D:Dic) (w:World) (hV:DicV w vs D) (hS:DicS D) :
 Calls Tryz.prog 41 #[dv vs] w fun e w'=>∃ r:Int,e = .returned (.int .i64 r) ∧ (r = 0 ∨ r = 160) ∧ (r = 0 ↔ DicOK D) ∧ Ext w w':=by
 have hk:=fun w=>kinds_any vs w
 have hr1:RowAt ((w.alloc (.cells (dcells vs).toArray 28)).alloc (.cells #[.int .i64 0] 40)) (w.heap.size + 1) 40 [.int .i64 0]:=row_at (by simp)
 have hr2:=RowAt.new ((w.alloc (.cells (dcells vs).toArray 28)).alloc (.cells #[.int .i64 0] 40)) 28 (dcells vs)
 have hx0:Ext w ((w.alloc (.cells (dcells vs).toArray 28)).alloc (.cells #[.int .i64 0] 40)):=(Ext.alloc _ _).trans (Ext.alloc _ _)
 have hsz:((w.alloc (.cells (dcells vs).toArray 28)).alloc (.cells #[.int .i64 0] 40)).heap.size = w.heap.size + 1 + 1:=by simp
 have hx1:=Ext.alloc ((w.alloc (.cells (dcells vs).toArray 28)).alloc (.cells #[.int .i64 0] 40)) (.cells (dcells vs).toArray 28)
 rw [hsz] at hr2
 unfold dv
 unfold dv at hk
 have hdc:(dcells vs).toArray = #[(vs 0).1,(vs 0).2,(vs 1).1,(vs 1).2,(vs 2).1,(vs 2).2,(vs 3).1,(vs 3).2,(vs 4).1,(vs 4).2]:=rfl
 rw [hdc]
 simp only [hdc] at hr1 hr2 hx0 hsz hx1 hk
 refine calls_of_wp_marks Tryz.func41 rfl ?_
 simp only [Tryz.ntmps41,List.size_toArray,List.length_cons,List.length_nil,Nat.reduceAdd,Nat.reduceSub,Array.replicate_succ,Array.replicate_zero,List.push_toArray,List.append_toArray,List.nil_append,List.cons_append]
 go_wp2_with (go_at_call 76;refine (hk _).mono ?_;rintro e w' ⟨rfl,rfl⟩)
 replace hr1:=hr1.ext hx1
 generalize ((w.alloc (.cells #[(vs 0).1,(vs 0).2,(vs 1).1,(vs 1).2,(vs 2).1,(vs 2).2,(vs 3).1,(vs 3).2,(vs 4).1,(vs 4).2] 28)).alloc (.cells #[.int .i64 0] 40)).alloc (.cells #[(vs 0).1,(vs 0).2,(vs 1).1,(vs 1).2,(vs 2).1,(vs 2).2,(vs 3).1,(vs 3).2,(vs 4).1,(vs 4).2] 28) = w1 at *
 have hxw:=hx0.trans hx1
 have hsh:=hV.shape
 have HV:=hid (hV.ext hxw)
 have HS:=hid hS
 have hwz:=hxw.size
 have hI0:CkI w w1 vs D 0 w1:=⟨Ext.refl _,hr2,hr1,fun i h=>by omega⟩
 have HXW:=hid hxw
 clear hk hr1 hr2 hx0 hsz hx1 hdc hV hS hxw
 refine wp_overI rfl (enters_of Tryz.func109 (by kernel_rfl) rfl) (kinds_iter vs _ hsh)
  (by rintro k W args rfl;rfl) (fun k args=>Stab.pure _ _)
  (fun k W=>CkI w w1 vs D k W) (fun q W=>q = .ret ∧ ¬ DicOK D ∧ Below w.heap.size w W ∧ RowAt W (w.heap.size + 1) 40 [.int .i64 160])
  (fun k=>CkI.stab _ _ _ _ _) (fun q=>(Stab.pure _ _).and ((Stab.pure _ _).and ((Stab.belowW w _ hwz).and (Stab.rowD _ _ _ _)))) (fun k W h=>h.arg) hI0 ?_ ?_ ?_
 ·rintro k args W L hk hL hI rfl
  obtain ⟨a,n,c,b,m,d,hv,hT,hSl⟩:=HV.out k hk
  obtain ⟨hD1,hD2,hD3⟩:=HS.out k hk
  obtain ⟨e1,e2⟩:=fst_eq hv
  rw [e1,e2]
  gi_wp2
  refine ⟨keeps_ext _ ((Ext.alloc _ _).trans (Ext.alloc _ _)),hI.grow ((Ext.alloc _ _).trans (Ext.alloc _ _)),trivial,?_⟩
  have hb1:RowAt ((W.alloc (.cells #[.int .i64 k] 3)).alloc (.cells #[.slice a n c,.slice b m d] 25)) W.heap.size 3 [.int .i64 k]:=(RowAt.new W 3 [.int .i64 k]).ext (Ext.alloc _ _)
  have hb2:RowAt ((W.alloc (.cells #[.int .i64 k] 3)).alloc (.cells #[.slice a n c,.slice b m d] 25)) (W.heap.size + 1) 25 [.slice a n c,.slice b m d]:=row_at (by simp)
  rintro W2 hst hI2 -
  replace hb1:=hst _ (Stab.rowD _ _ _ _) hb1
  replace hb2:=hst _ (Stab.rowD _ _ _ _) hb2
  obtain ⟨p0,q0⟩:=hb1.facts1
  obtain ⟨p1,p2,q1,q2⟩:=hb2.facts2
  have hx2:=HXW.out.trans hI2.ext
  have HT:=hid (hT.ext hI2.ext)
  have HSl:=hid (hSl.ext hI2.ext)
  have HI:=hid hI2
  obtain ⟨r0,u0⟩:=hI2.out.facts1
  clear hst hb1 hb2 hT hSl hI hI2
  gi_wp2
  have hslen:m ≤ 1048576:=by have:=HSl.out.len;omega
  have hcall:∀ {f:Nat} {args:Array Value} {w:World} {R:Ending → World → Prop},Calls Tryz.prog f args w R → CallsIn (Fence.wide.inRound L) 0 Tryz.prog f args w R:=fun h=>(callsIn_wide (n:=0)).2 h
  have hn:=HT.out.len
  have hnx:Hid (∀ W3,Ext W2 W3 → KindOK k (D k) → CkI w w1 vs D (k + 1) W3):=hid (fun W3 hx3 hok=>⟨(HI.out.grow hx3).ext,(HI.out.grow hx3).arg,(HI.out.grow hx3).out,fun i hi=>by
   by_cases e:i = k
   ·subst e;exact hok
   ·exact HI.out.ok i (by omega)⟩)
  have hst:Hid (∀ W3,Ext W2 W3 → ¬ KindOK k (D k) → KeepsFrom w1.heap.size W2 (W3.setCell ⟨w.heap.size + 1,0,none⟩ (.int .i64 160)) ∧ (¬ DicOK D ∧ Below w.heap.size w (W3.setCell ⟨w.heap.size + 1,0,none⟩ (.int .i64 160)) ∧ RowAt (W3.setCell ⟨w.heap.size + 1,0,none⟩ (.int .i64 160)) (w.heap.size + 1) 40 [.int .i64 160])) :=
   hid (fun W3 hx3 hno=>⟨(keeps_ext _ hx3).trans (keeps_set _ (HI.out.grow hx3).out.facts1.1 _),fun h=>hno (h k hk),((hx2.trans hx3).setCell (p:=⟨w.heap.size + 1,0,none⟩) (Nat.le_succ _) _),(HI.out.grow hx3).out.set 0 _⟩)
  by_cases hc:TabOK (D k).1 (D k).2
  ·refine (hcall (tcheck_yes HT.out HSl.out hslen hD3 hc)).mono ?_
   rintro e W3 ⟨rfl,hx3⟩
   have p1':=ext_cell hx3 p1
   have p2':=ext_cell hx3 p2
   have p0':=ext_cell hx3 p0
   obtain ⟨r0',u0'⟩:=((HI.out.grow hx3).out).facts1
   have hct:=contains_any (k:=(k:Int)) W.heap.size (.slice a n c) (D k).1 W3 (HT.out.ext hx3) hD3 p0'
   by_cases hl:128 < n
   ·have hd:decide ((128:Int) < (n:Int)) = true:=decide_eq_true (by omega)
    have hno:Hid (¬ KindOK k (D k)):=hid (fun h=>by have:=h.2.1;omega)
    have hs:=hid (hst.out W3 hx3 hno.out)
    clear hct hnx hst hl hn
    gi_wp2
    exact ⟨hs.out.1,rfl,hs.out.2⟩
   ·have hd:decide ((128:Int) < (n:Int)) = false:=decide_eq_false (by omega)
    generalize hb:badB (k:Int) (D k).1 = bb at *
    have HCT:=hid hct
    have hok:Hid (bb = false → KindOK k (D k)):=hid (fun h=>⟨hc,by omega,by rw [hb,h]⟩)
    have hno:Hid (bb = true → ¬ KindOK k (D k)):=hid (fun h h'=>by have:=h'.2.2;rw [hb,h] at this;cases this)
    clear hct hl hn hb hc
    cases bb with
    | true =>
     gi_wp2
     refine (hcall HCT.out).mono ?_
     rintro e W4 ⟨rfl,hx4⟩
     have hs:=hid (hst.out W4 (hx3.trans hx4) (hno.out trivial))
     obtain ⟨r0'',u0''⟩:=((HI.out.grow (hx3.trans hx4)).out).facts1
     clear hnx hst hok hno r0' u0'
     gi_wp2
     exact ⟨hs.out.1,rfl,hs.out.2⟩
    | false =>
     gi_wp2
     refine (hcall HCT.out).mono ?_
     rintro e W4 ⟨rfl,hx4⟩
     have hs:=hid (hnx.out W4 (hx3.trans hx4) (hok.out trivial))
     clear hnx hst hok hno
     gi_wp2
     exact ⟨keeps_ext _ (hx3.trans hx4),hs.out⟩
  ·refine (hcall (tcheck_no HT.out HSl.out hslen hD3 hc)).mono ?_
   rintro e W3 ⟨rfl,hx3⟩
   obtain ⟨r0',u0'⟩:=((HI.out.grow hx3).out).facts1
   have hs:=hid (hst.out W3 hx3 (fun h=>hc h.1))
   clear hnx hst hc hn
   gi_wp2
   exact ⟨hs.out.1,rfl,hs.out.2⟩
 ·rintro Dd W hD hI hdf
  obtain ⟨r0,u0⟩:=hI.out.facts1
  have HI:=hid hI
  have hyes:Hid (DicOK D):=hid hI.ok
  clear hI0 hsh hI
  go_wp2
  have hdf':=(keeps_set 0 HI.out.out.facts1.1 (.int .i64 0)).same Dd _ (Nat.zero_le _) hdf rfl
  have q0:=(row_mark (HI.out.out.set 0 (.int .i64 0)) hdf').facts1.1
  refine leave_markedC hdf' (v:=.int .i64 0) (by simp [results,Tryz.results41,go_sem,q0]) ⟨0,rfl,.inl rfl,⟨fun _=>hyes.out,fun _=>rfl⟩,below_mark ((HXW.out.trans HI.out.ext).setCell (p:=⟨w.heap.size + 1,0,none⟩) (Nat.le_succ _) _) (by omega)⟩
 ·rintro Dd q W hD ⟨rfl,hno,hB,hR⟩ hdf
  have HB:=hid hB
  have HN:=hid hno
  have HR:=hid hR
  clear hI0 hsh hB hno hR
  go_wp2
  have q0:=(row_mark HR.out hdf).facts1.1
  exact leave_markedC hdf (v:=.int .i64 160) (by simp [results,Tryz.results41,go_sem,q0]) ⟨160,rfl,.inr rfl,⟨fun h=>(by simp at h),fun h=>absurd h HN.out⟩,below_mark HB.out (by omega)⟩
end

/- The ids of names, the names of ids, and all of a kind. -/
section
open Go.RowKit Go.Shelf Go.Sort
attribute [local go_sem] Oper.semAt_some wide_fn wide_depth
theorem dcells_at (vs:Nat → Value × Value) {k:Nat} (h:k < 5):(dcells vs)[k * 2]? = some (vs k).1 ∧ (dcells vs)[k * 2 + 1]? = some (vs k).2:=by
 have hc:k = 0 ∨ k = 1 ∨ k = 2 ∨ k = 3 ∨ k = 4:=by omega
 rcases hc with rfl | rfl | rfl | rfl | rfl <;> exact ⟨rfl,rfl⟩
theorem dcheck_yes (vs:Nat → Value × Value) (D:Dic) (w:World) (hV:DicV w vs D) (hS:DicS D) (h:DicOK D):Calls Tryz.prog 41 #[dv vs] w fun e w'=>e = .returned (.int .i64 0) ∧ Ext w w' :=
 (dcheck_any vs D w hV hS).mono fun e w' ⟨r,he,_,h2,hx⟩=>⟨by rw [he,h2.2 h],hx⟩
theorem dcheck_no (vs:Nat → Value × Value) (D:Dic) (w:World) (hV:DicV w vs D) (hS:DicS D) (h:¬ DicOK D):Calls Tryz.prog 41 #[dv vs] w fun e w'=>e = .returned (.int .i64 160) ∧ Ext w w' :=
 (dcheck_any vs D w hV hS).mono fun e w' ⟨r,he,h1,h2,hx⟩=>⟨by rw [he];rcases h1 with rfl | rfl;exact absurd (h2.1 rfl) h;rfl,hx⟩
def idF (D:Dic) (kind:Int) (s:ByteArray):Int:=if 0 ≤ kind ∧ kind < 5 then findF (D kind.toNat).1 s else -1
def idRes (f:Int):Ending:=.returned (.tuple #[.int .i64 (max f 0),.bool (decide (0 ≤ f))])
def nameF (D:Dic) (kind q:Int):Value:=if 0 ≤ kind ∧ kind < 5 then textF (D kind.toNat).1 q else .tuple #[.string ⟨#[]⟩,.int .i64 2]
def namesF (D:Dic) (kind:Int):List ByteArray:=if 0 ≤ kind ∧ kind < 5 then (D kind.toNat).1 else []
set_option maxHeartbeats 1000000 in
theorem id_yes (vs:Nat → Value × Value) (D:Dic) (w:World) (hV:DicV w vs D) (hS:DicS D) (h:DicOK D) (kind:Int) (s:ByteArray) (hs:s.size ≤ 9223372036854775807) :
 Calls Tryz.prog 139 #[dv vs,.int .i64 kind,.string s] w fun e w'=>e = idRes (idF D kind s) ∧ Ext w w':=by
 have hc:=fun w' (hx:Ext w w')=>dcheck_yes vs D w' (hV.ext hx) hS h
 have HC:=hid hc
 have HV:=hid hV
 have HS:=hid hS
 have HK:=hid h
 have hrow:=RowAt.new w 28 (dcells vs)
 have HR:=hid hrow
 clear hc hV hS h hrow
 unfold dv dcells at *
 go_enter Tryz.func139,Tryz.ntmps139
 go_wp2_with fail
 refine (HC.out _ (Ext.alloc _ _)).mono ?_
 rintro e w1 ⟨rfl,hx1⟩
 by_cases hk:0 ≤ kind ∧ kind < 5
 ·obtain ⟨k,rfl⟩:=Int.eq_ofNat_of_zero_le hk.1
  have hk5:k < 5:=by omega
  obtain ⟨a,n,c,b,m,d,hv,hT,hSl⟩:=HV.out k hk5
  obtain ⟨hD1,hD2,hD3⟩:=HS.out k hk5
  obtain ⟨e1,e2⟩:=fst_eq hv
  have hrow:RowAt w1 w.heap.size 28 (dcells vs):=HR.out.ext hx1
  have p1:=hrow.cell (i:=k * 2) (dcells_at vs hk5).1
  have p2:=hrow.cell (i:=k * 2 + 1) (dcells_at vs hk5).2
  rw [e1] at p1
  rw [e2] at p2
  have hmm:m ≤ 1048576:=by have:=hSl.len;omega
  have hnT:=hT.len
  subst hnT
  have hf:=fun w' (hx:Ext w w')=>find_yes (D k).1 (D k).2 s a _ c b m d w' (hT.ext hx) (hSl.ext hx) hmm hD3 hs (HK.out k hk5).1
  have HF:=hid hf
  have hrr:Hid (idF D (k:Int) s = findF (D k).1 s):=hid (by unfold idF;rw [if_pos (by omega)];rfl)
  clear hf hT hSl hD1 hD2 hD3 hv e1 e2 hrow
  have hkn:=fun w'=>known_any (k:Int) w'
  rw [show (decide (0 ≤ (k:Int)) && decide ((k:Int) < 5)) = true by simp;omega] at hkn
  go_wp2_with (go_at_call 99;refine (hkn _).mono ?_;rintro e w2 ⟨rfl,rfl⟩)
  refine (HF.out _ ((Ext.alloc _ _).trans hx1)).mono ?_
  rintro e w2 ⟨rfl,hx2⟩
  go_wp2_with fail
  go_ret2
  exact ⟨by rw [hrr.out];rfl,((Ext.alloc _ _).trans hx1).trans hx2⟩
 ·have hrr:Hid (idF D kind s = -1):=hid (by unfold idF;rw [if_neg hk])
  have hkn:=fun w'=>known_any kind w'
  rw [show (decide (0 ≤ kind) && decide (kind < 5)) = false by simp;omega] at hkn
  go_wp2_with (go_at_call 99;refine (hkn _).mono ?_;rintro e w2 ⟨rfl,rfl⟩)
  go_ret2
  exact ⟨by rw [hrr.out];rfl,(Ext.alloc _ _).trans hx1⟩
set_option maxHeartbeats 1000000 in
theorem name_yes (vs:Nat → Value × Value) (D:Dic) (w:World) (hV:DicV w vs D) (hS:DicS D) (h:DicOK D) (kind q:Int) :
 Calls Tryz.prog 140 #[dv vs,.int .i64 kind,.int .i64 q] w fun e w'=>e = .returned (nameF D kind q) ∧ Ext w w':=by
 have hc:=fun w' (hx:Ext w w')=>dcheck_yes vs D w' (hV.ext hx) hS h
 have HC:=hid hc
 have HV:=hid hV
 have HS:=hid hS
 have HK:=hid h
 have hrow:=RowAt.new w 28 (dcells vs)
 have HR:=hid hrow
 clear hc hV hS h hrow
 unfold dv dcells at *
 go_enter Tryz.func140,Tryz.ntmps140
 go_wp2_with fail
 refine (HC.out _ (Ext.alloc _ _)).mono ?_
 rintro e w1 ⟨rfl,hx1⟩
 by_cases hk:0 ≤ kind ∧ kind < 5
 ·obtain ⟨k,rfl⟩:=Int.eq_ofNat_of_zero_le hk.1
  have hk5:k < 5:=by omega
  obtain ⟨a,n,c,b,m,d,hv,hT,hSl⟩:=HV.out k hk5
  obtain ⟨hD1,hD2,hD3⟩:=HS.out k hk5
  obtain ⟨e1,e2⟩:=fst_eq hv
  have hrow:RowAt w1 w.heap.size 28 (dcells vs):=HR.out.ext hx1
  have p1:=hrow.cell (i:=k * 2) (dcells_at vs hk5).1
  have p2:=hrow.cell (i:=k * 2 + 1) (dcells_at vs hk5).2
  rw [e1] at p1
  rw [e2] at p2
  have hmm:m ≤ 1048576:=by have:=hSl.len;omega
  have hnT:=hT.len
  subst hnT
  have hf:=fun w' (hx:Ext w w')=>text_yes (D k).1 (D k).2 q a _ c b m d w' (hT.ext hx) (hSl.ext hx) hmm hD3 (HK.out k hk5).1
  have HF:=hid hf
  have hrr:Hid (nameF D (k:Int) q = textF (D k).1 q):=hid (by unfold nameF;rw [if_pos (by omega)];rfl)
  clear hf hT hSl hD1 hD2 hD3 hv e1 e2 hrow
  have hkn:=fun w'=>known_any (k:Int) w'
  rw [show (decide (0 ≤ (k:Int)) && decide ((k:Int) < 5)) = true by simp;omega] at hkn
  go_wp2_with (go_at_call 99;refine (hkn _).mono ?_;rintro e w2 ⟨rfl,rfl⟩)
  refine (HF.out _ ((Ext.alloc _ _).trans hx1)).mono ?_
  rintro e w2 ⟨rfl,hx2⟩
  obtain ⟨ts,tc,ht⟩:∃ ts tc,textF (D k).1 q = .tuple #[.string ts,.int .i64 tc]:=by unfold textF;split <;> exact ⟨_,_,rfl⟩
  rw [ht] at hrr ⊢
  clear ht
  go_wp2_with fail
  go_ret2
  exact ⟨by rw [hrr.out];rfl,((Ext.alloc _ _).trans hx1).trans hx2⟩
 ·have hrr:Hid (nameF D kind q = .tuple #[.string ⟨#[]⟩,.int .i64 2]):=hid (by unfold nameF;rw [if_neg hk])
  have hkn:=fun w'=>known_any kind w'
  rw [show (decide (0 ≤ kind) && decide (kind < 5)) = false by simp;omega] at hkn
  go_wp2_with (go_at_call 99;refine (hkn _).mono ?_;rintro e w2 ⟨rfl,rfl⟩)
  go_ret2
  exact ⟨by rw [hrr.out];rfl,(Ext.alloc _ _).trans hx1⟩
set_option maxHeartbeats 1000000 in
theorem names_yes (vs:Nat → Value × Value) (D:Dic) (w:World) (hV:DicV w vs D) (hS:DicS D) (h:DicOK D) (kind:Int) :
 Calls Tryz.prog 65 #[dv vs,.int .i64 kind] w fun e w'=>∃ u,e = .returned u ∧ w'.ownsRow w.heap.size 9 1 u (namesF D kind).length ((namesF D kind).map Value.string) ∧ Ext w w':=by
 have hc:=fun w' (hx:Ext w w')=>dcheck_yes vs D w' (hV.ext hx) hS h
 have HC:=hid hc
 have HV:=hid hV
 have HS:=hid hS
 have HK:=hid h
 have hrow:=RowAt.new w 28 (dcells vs)
 have HR:=hid hrow
 clear hc hV hS h hrow
 unfold dv dcells at *
 go_enter Tryz.func65,Tryz.ntmps65
 go_wp2_with fail
 refine (HC.out _ (Ext.alloc _ _)).mono ?_
 rintro e w1 ⟨rfl,hx1⟩
 by_cases hk:0 ≤ kind ∧ kind < 5
 ·obtain ⟨k,rfl⟩:=Int.eq_ofNat_of_zero_le hk.1
  have hk5:k < 5:=by omega
  obtain ⟨a,n,c,b,m,d,hv,hT,hSl⟩:=HV.out k hk5
  obtain ⟨hD1,hD2,hD3⟩:=HS.out k hk5
  obtain ⟨e1,e2⟩:=fst_eq hv
  have hrow:RowAt w1 w.heap.size 28 (dcells vs):=HR.out.ext hx1
  have p1:=hrow.cell (i:=k * 2) (dcells_at vs hk5).1
  have p2:=hrow.cell (i:=k * 2 + 1) (dcells_at vs hk5).2
  rw [e1] at p1
  rw [e2] at p2
  have hmm:m ≤ 1048576:=by have:=hSl.len;omega
  have hnT:=hT.len
  subst hnT
  have hf:=fun w' (hx:Ext w w')=>cloneS (.slice a _ c) (D k).1 w' (hT.ext hx) (by omega)
  have HF:=hid hf
  have hrr:Hid (namesF D (k:Int) = (D k).1):=hid (by unfold namesF;rw [if_pos (by omega)];rfl)
  clear hf hT hSl hD1 hD2 hD3 hv e1 e2 hrow
  have hkn:=fun w'=>known_any (k:Int) w'
  rw [show (decide (0 ≤ (k:Int)) && decide ((k:Int) < 5)) = true by simp;omega] at hkn
  go_wp2_with (go_at_call 99;refine (hkn _).mono ?_;rintro e w2 ⟨rfl,rfl⟩)
  refine (HF.out _ ((Ext.alloc _ _).trans hx1)).mono ?_
  rintro e w2 ⟨u,cu,rfl,ho2,hx2⟩
  go_wp2_with fail
  go_ret
  exact ⟨_,rfl,by rw [hrr.out];exact own_base ho2 ((Ext.alloc _ _).trans hx1).size,((Ext.alloc _ _).trans hx1).trans hx2⟩
 ·have hrr:Hid (namesF D kind = []):=hid (by unfold namesF;rw [if_neg hk])
  have hkn:=fun w'=>known_any kind w'
  rw [show (decide (0 ≤ kind) && decide (kind < 5)) = false by simp;omega] at hkn
  go_wp2_with (go_at_call 99;refine (hkn _).mono ?_;rintro e w2 ⟨rfl,rfl⟩)
  go_ret
  exact ⟨_,rfl,by rw [hrr.out];exact World.ownsRow_nil _ _ _ _,(Ext.alloc _ _).trans hx1⟩
end

/- A dictionary in memory of its own: what it asks for; New. -/
section
open Go.RowKit Go.Shelf Go.Sort
attribute [local go_sem] Oper.semAt_some wide_fn wide_depth
theorem RowAt.set_ne {w:World} {g g' i:Nat} {t:TypeId} {xs:List Value} {v:Value} (h:RowAt w g t xs) (hne:g' ≠ g):RowAt (w.setCell ⟨g',i,none⟩ v) g t xs:=h.kept (grown_set w g' i v) (fun e=>hne (Option.some.inj e))
def setL:World → Nat → Nat → List Value → World
 | W,_,_,[]=>W
 | W,g,i,x :: xs=>setL (W.setCell ⟨g,i,none⟩ x) g (i + 1) xs
theorem own_setL {B size n:Nat} {e:TypeId} {v:Value} {ys:List Value} {g:Nat} (hg:g < B):∀ (xs:List Value) (i:Nat) {W:World},W.ownsRow B e size v n ys → (setL W g i xs).ownsRow B e size v n ys
 | [],_,_,h=>h
 | x :: xs,i,_,h=>own_setL hg xs (i + 1) (own_kept h (grown_set _ g i x) (fun r hr=>by cases hr;omega))
theorem below_setL {B g:Nat} {w:World} (hg:B ≤ g):∀ (xs:List Value) (i:Nat) {W:World},Below B w W → Below B w (setL W g i xs)
 | [],_,_,h=>h
 | x :: xs,i,_,h=>below_setL hg xs (i + 1) (h.setCell (p:=⟨g,i,none⟩) hg x)
theorem row_setL {g:Nat} {t:TypeId}:∀ (xs pre ys:List Value) {W:World},RowAt W g t (pre ++ ys) → ys.length = xs.length → RowAt (setL W g pre.length xs) g t (pre ++ xs)
 | [],pre,ys,W,h,hl=>by
  obtain rfl:ys = []:=List.eq_nil_of_length_eq_zero (by simpa using hl)
  exact h
 | x :: xs,pre,[],W,h,hl=>by simp at hl
 | x :: xs,pre,y :: ys,W,h,hl=>by
  have h1:=h.set pre.length x
  rw [show (pre ++ y :: ys).set pre.length x = (pre ++ [x]) ++ ys by simp [List.set_append]] at h1
  have:=row_setL xs (pre ++ [x]) ys h1 (by simpa using hl)
  rw [show (pre ++ [x]).length = pre.length + 1 by simp,List.append_assoc] at this
  exact this
theorem heap_setL_ne {g D:Nat} (hg:g ≠ D):∀ (xs:List Value) (i:Nat) (W:World),(setL W g i xs).heap[D]? = W.heap[D]?
 | [],_,_=>rfl
 | x :: xs,i,W=>(heap_setL_ne hg xs (i + 1) _).trans (Below.heap_setCell _ _ _ _ (fun e=>hg e.symm))
def DicOwn (B:Nat) (w:World) (vs:Nat → Value × Value) (D:Dic):Prop:=∀ i,i < 5 → TabOwn B w (.agg #[(vs i).1,(vs i).2]) (D i).1 (D i).2
theorem DicOwn.ext {B:Nat} {w w':World} {vs:Nat → Value × Value} {D:Dic} (h:DicOwn B w vs D) (hx:Ext w w'):DicOwn B w' vs D:=fun i hi=>(h i hi).ext hx
theorem DicOwn.base {B B':Nat} {w:World} {vs:Nat → Value × Value} {D:Dic} (h:DicOwn B w vs D) (hb:B' ≤ B):DicOwn B' w vs D:=fun i hi=>(h i hi).base hb
theorem TabOwn.setL {B:Nat} {w:World} {v:Value} {T:List ByteArray} {S:List Int} (h:TabOwn B w v T S) {g:Nat} (hg:g < B) (xs:List Value) (i:Nat):TabOwn B (setL w g i xs) v T S:=by
 obtain ⟨a,n,c,b,m,d,rfl,h1,h2⟩:=h
 exact ⟨a,n,c,b,m,d,rfl,own_setL hg xs i h1,own_setL hg xs i h2⟩
theorem TabOwn.pair {B:Nat} {w:World} {v:Value × Value} {T:List ByteArray} {S:List Int} (h:TabOwn B w (.agg #[v.1,v.2]) T S):∃ a c b d,v = (.slice a T.length c,.slice b S.length d) ∧
 w.ownsRow B 9 1 (.slice a T.length c) T.length (T.map Value.string) ∧ w.ownsRow B 3 1 (.slice b S.length d) S.length (S.map (Value.int .i64)):=by
 obtain ⟨a,n,c,b,m,d,e,h1,h2⟩:=h
 obtain ⟨v1,v2⟩:=v
 simp at e
 obtain ⟨rfl,rfl⟩:=e
 have e1:=ownsRow_shape h1
 have e2:=ownsRow_shape h2
 subst e1 e2
 exact ⟨a,c,b,d,rfl,h1,h2⟩
theorem DicOwn.view {B:Nat} {w:World} {vs:Nat → Value × Value} {D:Dic} (h:DicOwn B w vs D):DicV w vs D:=fun i hi=>by
 obtain ⟨a,c,b,d,e,h1,h2⟩:=(h i hi).pair
 exact ⟨a,_,c,b,_,d,e,Sl.of_own h1,Sl.of_own h2⟩
def upd {α:Type} (ts:Nat → α) (k:Nat) (u:α):Nat → α:=fun i=>if i = k then u else ts i
theorem upd_at {α:Type} (ts:Nat → α) (k:Nat) (u:α):upd ts k u k = u:=if_pos rfl
theorem upd_ne {α:Type} (ts:Nat → α) {k i:Nat} (u:α) (h:i ≠ k):upd ts k u i = ts i:=if_neg h
theorem dcells_upd (ts:Nat → Value × Value) {k:Nat} (h:k < 5) (x y:Value):dcells (upd ts k (x,y)) = ((dcells ts).set (k * 2) x).set (k * 2 + 1) y:=by
 have hc:k = 0 ∨ k = 1 ∨ k = 2 ∨ k = 3 ∨ k = 4:=by omega
 rcases hc with rfl | rfl | rfl | rfl | rfl <;> rfl
theorem row_upd {W:World} {g:Nat} {t:TypeId} {ts:Nat → Value × Value} (h:RowAt W g t (dcells ts)) {k:Nat} (hk:k < 5) (x y:Value):RowAt ((W.setCell ⟨g,k * 2,none⟩ x).setCell ⟨g,k * 2 + 1,none⟩ y) g t (dcells (upd ts k (x,y))):=by
 rw [dcells_upd ts hk]
 exact (h.set (k * 2) x).set (k * 2 + 1) y
def noV:Nat → Value × Value:=fun _=>(.slice none 0 0,.slice none 0 0)
abbrev Heads:=Nat → Option Addr × Nat × Nat × Option Addr × Nat × Nat
def hv (A:Heads):Nat → Value × Value:=fun i=>(.slice (A i).1 (A i).2.1 (A i).2.2.1,.slice (A i).2.2.2.1 (A i).2.2.2.2.1 (A i).2.2.2.2.2)
theorem heads {vs:Nat → Value × Value} (h:∀ i,i < 5 → ∃ a n c b m d,vs i = (.slice a n c,.slice b m d)):∃ A,(∀ i,i < 5 → vs i = hv A i) ∧ dcells vs = dcells (hv A):=by
 have hA:∃ A:Heads,∀ i,i < 5 → vs i = hv A i:=by
  refine ⟨fun i=>match vs i with | (.slice a n c,.slice b m d)=>(a,n,c,b,m,d) | _=>(none,0,0,none,0,0),fun i hi=>?_⟩
  obtain ⟨a,n,c,b,m,d,e⟩:=h i hi
  simp [hv,e]
 obtain ⟨A,hA⟩:=hA
 refine ⟨A,hA,?_⟩
 unfold dcells
 rw [hA 0 (by omega),hA 1 (by omega),hA 2 (by omega),hA 3 (by omega),hA 4 (by omega)]
theorem set10 (W:World) (g:Nat) (x0 x1 x2 x3 x4 x5 x6 x7 x8 x9:Value):((((((((((W.setCell ⟨g,0,none⟩ x0).setCell ⟨g,1,none⟩ x1).setCell ⟨g,2,none⟩ x2).setCell ⟨g,3,none⟩ x3).setCell ⟨g,4,none⟩ x4).setCell ⟨g,5,none⟩ x5).setCell ⟨g,6,none⟩ x6).setCell ⟨g,7,none⟩ x7).setCell ⟨g,8,none⟩ x8).setCell ⟨g,9,none⟩ x9) = setL W g 0 [x0,x1,x2,x3,x4,x5,x6,x7,x8,x9]:=rfl
theorem row_set10 {g:Nat} {t:TypeId} {vs:Nat → Value × Value} {W:World} (ts:Nat → Value × Value) (h:RowAt W g t (dcells vs)):RowAt (setL W g 0 (dcells ts)) g t (dcells ts):=row_setL (dcells ts) [] (dcells vs) h rfl
theorem RowAt.facts10f {w:World} {g:Nat} {t:TypeId} {xs:List Value} (h:RowAt w g t xs):w.frozen? ⟨g,0,none⟩ = false ∧ w.frozen? ⟨g,1,none⟩ = false ∧ w.frozen? ⟨g,2,none⟩ = false ∧ w.frozen? ⟨g,3,none⟩ = false ∧ w.frozen? ⟨g,4,none⟩ = false ∧ w.frozen? ⟨g,5,none⟩ = false ∧ w.frozen? ⟨g,6,none⟩ = false ∧ w.frozen? ⟨g,7,none⟩ = false ∧ w.frozen? ⟨g,8,none⟩ = false ∧ w.frozen? ⟨g,9,none⟩ = false :=
 ⟨h.frozen 0,h.frozen 1,h.frozen 2,h.frozen 3,h.frozen 4,h.frozen 5,h.frozen 6,h.frozen 7,h.frozen 8,h.frozen 9⟩
end

end Go.Proofs.YtkmbnghghbfkdaaGreat
