/- A name is put. -/
import Derived.Test.YtkmbnghghbfkdaaGreatGp10
import Derived.Test.YtkmbnghghbfkdaaGreatGp09
import Derived.Test.YtkmbnghghbfkdaaGreatGp07
import Derived.Test.YtkmbnghghbfkdaaGreatGp08
import Derived.Test.YtkmbnghghbfkdaaGreatGp06
import Derived.Test.YtkmbnghghbfkdaaGreatGp01
set_option linter.unusedSimpArgs false
set_option linter.unusedVariables false
set_option maxHeartbeats 2000000
set_option maxRecDepth 100000
namespace Go.Proofs.YtkmbnghghbfkdaaGreat
open Go.Lib (hid)

section
open Go.RowKit Go.Shelf Go.Sort
attribute [local go_sem] Oper.semAt_some wide_fn wide_depth
theorem mayB_kind {k:Int} {s:List UInt8} (h:mayB k s = true):0 ≤ k ∧ k < 5:=by
 unfold mayB at h
 simp only [Bool.and_eq_true,decide_eq_true_eq] at h
 omega
def putD (D:Dic) (kind:Int) (s:ByteArray):Except Int (Dic × Int) :=
 if mayB kind (bts s) = true then match dputF (D kind.toNat).1 (D kind.toNat).2 s with
  | none=>.error 6
  | some (T,S,n)=>.ok (upd D kind.toNat (T,S),n)
 else .error 2
def DPutPost (w:World) (r:Except Int (Dic × Int)) (e:Ending) (w':World):Prop:=Ext w w' ∧
 match r with
 | .ok (D',n)=>∃ us,e = .returned (.tuple #[dv us,.int .i64 n,.int .i64 0]) ∧ DicOwn w.heap.size w' us D'
 | .error c=>e = .returned (.tuple #[dv noV,.int .i64 0,.int .i64 c])
def dnoV:Value:=.agg #[.slice none 0 0,.slice none 0 0,.slice none 0 0,.slice none 0 0,.slice none 0 0,.slice none 0 0,.slice none 0 0,.slice none 0 0,.slice none 0 0,.slice none 0 0]
theorem dv_noV:dv noV = dnoV:=rfl
theorem dPut_all (vs:Nat → Value × Value) (D:Dic) (kind:Int) (s:ByteArray) (w:World) (hV:DicV w vs D) (hS:DicS D) (hs:s.size ≤ 9223372036854775807) (ok:Bool) (hok:ok = true ↔ DicOK D) :
 Calls Tryz.prog 18 #[dv vs,.int .i64 kind,.string s] w (DPutPost w (if ok then putD D kind s else .error 160)):=by
 have hbd:RowAt ((w.alloc (.cells (dcells vs).toArray 28)).alloc (.cells (dcells noV).toArray 28)) (w.heap.size + 1) 28 (dcells noV):=row_at (by simp)
 have hbd0:RowAt ((w.alloc (.cells (dcells vs).toArray 28)).alloc (.cells (dcells noV).toArray 28)) w.heap.size 28 (dcells vs):=(RowAt.new w _ (dcells vs)).ext (Ext.alloc _ _)
 have hx0:Ext w ((w.alloc (.cells (dcells vs).toArray 28)).alloc (.cells (dcells noV).toArray 28)):=(Ext.alloc _ _).trans (Ext.alloc _ _)
 have hc:∀ w',Ext w w' → Calls Tryz.prog 41 #[dv vs] w' fun e w''=>e = .returned (.int .i64 (if ok then 0 else 160)) ∧ Ext w' w'':=fun w' hx=>by
  cases ok with
  | true=>exact dcheck_yes vs D w' (hV.ext hx) hS (hok.1 rfl)
  | false=>exact dcheck_no vs D w' (hV.ext hx) hS (fun h=>by have:=hok.2 h;cases this)
 have ho:∀ w',Ext w w' → Calls Tryz.prog 58 #[dv vs] w' fun e w''=>∃ us,e = .returned (dv us) ∧ DicOwn w'.heap.size w'' us D ∧ Ext w' w'':=fun w' hx=>down_any vs D w' (hV.ext hx) hS
 have hm:=fun w'=>may_any kind s w' hs
 have hdn:(dcells noV).toArray = #[.slice none 0 0,.slice none 0 0,.slice none 0 0,.slice none 0 0,.slice none 0 0,.slice none 0 0,.slice none 0 0,.slice none 0 0,.slice none 0 0,.slice none 0 0]:=rfl
 have hdc:(dcells vs).toArray = #[(vs 0).1,(vs 0).2,(vs 1).1,(vs 1).2,(vs 2).1,(vs 2).2,(vs 3).1,(vs 3).2,(vs 4).1,(vs 4).2]:=rfl
 rw [hdn,hdc] at hbd hbd0 hx0
 have HB:=hid hbd
 have HB0:=hid hbd0
 have HX0:=hid hx0
 have HO:=hid ho
 have HM:=hid hm
 have HS:=hid hS
 have HOK:=hid hok
 unfold dv at hc
 rw [hdc] at hc
 have HC:=hid hc
 unfold dv
 rw [hdc]
 clear hbd hbd0 hx0 hc ho hm hdn hdc hS hok hV
 generalize hres:(if ok = true then putD D kind s else .error 160) = res
 have HRES:=hid hres
 clear hres
 go_enter Tryz.func18,Tryz.ntmps18
 go_upto_region 1 with fail
 replace HB:=HB.out
 replace HB0:=HB0.out
 replace HX0:=HX0.out
 generalize ((w.alloc (.cells #[(vs 0).1,(vs 0).2,(vs 1).1,(vs 1).2,(vs 2).1,(vs 2).2,(vs 3).1,(vs 3).2,(vs 4).1,(vs 4).2] 28)).alloc (.cells #[.slice none 0 0,.slice none 0 0,.slice none 0 0,.slice none 0 0,.slice none 0 0,.slice none 0 0,.slice none 0 0,.slice none 0 0,.slice none 0 0,.slice none 0 0] 28)) = w1 at *
 obtain ⟨c0,c1,c2,c3,c4,c5,c6,c7,c8,c9⟩:=HB0.facts10
 go_wp2_with fail
 have hcc:=HC.out _ HX0
 obtain ⟨code,hcode⟩:∃ c:Int,(if ok = true then 0 else 160) = c:=⟨_,rfl⟩
 rw [hcode] at hcc
 clear HC
 refine hcc.mono ?_
 clear hcc
 rintro e w2 ⟨rfl,hx2⟩
 have HB2:=hid (HB.ext hx2)
 have hb02:=HB0.ext hx2
 clear HB HB0 c0 c1 c2 c3 c4 c5 c6 c7 c8 c9
 have HX2:=hid (HX0.trans hx2)
 cases ok with
 | false =>
  obtain rfl:160 = code:=hcode
  clear HOK HM HO
  obtain ⟨d0,d1,d2,d3,d4,d5,d6,d7,d8,d9⟩:=RowAt.facts10 (vs:=noV) HB2.out
  obtain ⟨g0,g1,g2,g3,g4,g5,g6,g7,g8,g9⟩:=HB2.out.facts10f
  simp only [noV] at d0 d1 d2 d3 d4 d5 d6 d7 d8 d9
  go_wp2_with fail
  rw [set10]
  obtain ⟨q0,q1,q2,q3,q4,q5,q6,q7,q8,q9⟩:=RowAt.facts10 (row_set10 (vs:=noV) noV HB2.out)
  unfold dcells noV at q0 q1 q2 q3 q4 q5 q6 q7 q8 q9
  dsimp only at q0 q1 q2 q3 q4 q5 q6 q7 q8 q9
  exact bodyPost_ret (v:=.tuple #[dv noV,.int .i64 0,.int .i64 160]) (by rw [dv_noV];unfold dnoV;simp [results,Tryz.results18,go_sem,q0,q1,q2,q3,q4,q5,q6,q7,q8,q9]) rfl ⟨below_setL (Nat.le_succ _) (dcells noV) 0 HX2.out,by rw [← HRES.out];rfl⟩
 | true =>
  obtain rfl:0 = code:=hcode
  have Hok:Hid (DicOK D):=hid (HOK.out.1 rfl)
  obtain ⟨mb,hmb⟩:∃ mb,mayB kind (bts s) = mb:=⟨_,rfl⟩
  have HMB:=hid hmb
  have hm:=HM.out
  rw [hmb] at hm
  clear hmb HM HOK
  cases mb with
  | false =>
   have HR:Hid (putD D kind s = .error 2):=hid (by unfold putD;rw [HMB.out];rfl)
   go_wp2_with fail
   refine (hm _).mono ?_
   rintro e w3 ⟨rfl,hx3⟩
   have hb3:=HB2.out.ext hx3
   obtain ⟨d0,d1,d2,d3,d4,d5,d6,d7,d8,d9⟩:=RowAt.facts10 (vs:=noV) hb3
   obtain ⟨g0,g1,g2,g3,g4,g5,g6,g7,g8,g9⟩:=hb3.facts10f
   have HB3:=hid hb3
   clear hb3
   simp only [noV] at d0 d1 d2 d3 d4 d5 d6 d7 d8 d9
   go_wp2_with fail
   rw [set10]
   obtain ⟨q0,q1,q2,q3,q4,q5,q6,q7,q8,q9⟩:=RowAt.facts10 (row_set10 (vs:=noV) noV HB3.out)
   unfold dcells noV at q0 q1 q2 q3 q4 q5 q6 q7 q8 q9
   dsimp only at q0 q1 q2 q3 q4 q5 q6 q7 q8 q9
   refine bodyPost_ret (v:=.tuple #[dv noV,.int .i64 0,.int .i64 2]) (by rw [dv_noV];unfold dnoV;simp [results,Tryz.results18,go_sem,q0,q1,q2,q3,q4,q5,q6,q7,q8,q9]) rfl ⟨below_setL (Nat.le_succ _) (dcells noV) 0 (HX2.out.trans hx3),?_⟩
   first | rw [← HRES.out,if_pos rfl,HR.out] | rw [← HRES.out,HR.out]
   rfl
  | true =>
   have hk:=mayB_kind HMB.out
   obtain ⟨k,rfl⟩:=Int.eq_ofNat_of_zero_le hk.1
   have hk5:k < 5:=by omega
   have HR:Hid (putD D (k:Int) s = match putsF [s] (D k).1 (D k).2 0 with | none=>.error 6 | some (T,S,n)=>.ok (upd D k (T,S),n)):=hid (by
    unfold putD
    rw [HMB.out,if_pos rfl,show ((k:Int)).toNat = k from rfl]
    cases h:dputF (D k).1 (D k).2 s with
    | none=>simp [putsF,h]
    | some r=>obtain ⟨T,S,n⟩:=r;simp [putsF,h])
   go_wp2_with fail
   refine (hm _).mono ?_
   rintro e w3 ⟨rfl,hx3⟩
   obtain ⟨c0,c1,c2,c3,c4,c5,c6,c7,c8,c9⟩:=(hb02.ext hx3).facts10
   clear hm hb02
   go_wp2_with fail
   have hoo:=HO.out w3 (HX2.out.trans hx3)
   refine hoo.mono ?_
   rintro e w4 ⟨us,rfl,hus,hx4⟩
   clear hoo c0 c1 c2 c3 c4 c5 c6 c7 c8 c9
   have HUS:=hid hus
   clear hus
   generalize hdu:dv us = du
   have Hdu:=hid hdu
   clear hdu
   go_wp2_with fail
   have hsl:Strs (w4.alloc (.cells #[.string s] 9)) (.slice (some ⟨w4.heap.size,0,none⟩) 1 1) [s]:=Sl.new _ _ _ 1 1 (Nat.le_refl _) (by unfold maxLen;omega)
   have hp:=dput_any w3.heap.size us D k (.slice (some ⟨w4.heap.size,0,none⟩) 1 1) [s] (w4.alloc (.cells #[.string s] 9)) (by have:=hx4.size;simp;omega) (HUS.out.ext (Ext.alloc _ _)) hk5 (Hok.out k hk5).1 (HS.out k hk5).2.1 (HS.out k hk5).2.2 hsl (fun x hx=>by rw [List.mem_singleton.1 hx];exact hs)
   rw [Hdu.out] at hp
   generalize putsF [s] (D k).1 (D k).2 0 = pr at *
   refine hp.mono ?_
   rintro e w5 ⟨hx5,hm5⟩
   have hb5:=HB2.out.ext (((hx3.trans hx4).trans (Ext.alloc _ _)).trans hx5)
   obtain ⟨d0,d1,d2,d3,d4,d5,d6,d7,d8,d9⟩:=RowAt.facts10 (vs:=noV) hb5
   obtain ⟨g0,g1,g2,g3,g4,g5,g6,g7,g8,g9⟩:=hb5.facts10f
   have HB5:=hid hb5
   have HX5:=hid (((HX2.out.trans hx3).trans hx4).trans ((Ext.alloc _ _).trans hx5))
   simp only [noV] at d0 d1 d2 d3 d4 d5 d6 d7 d8 d9
   clear hb5 hp hsl
   cases pr with
   | none =>
    obtain rfl:=hm5
    rw [dv_noV]
    unfold dnoV
    go_wp2_with fail
    rw [set10]
    obtain ⟨q0,q1,q2,q3,q4,q5,q6,q7,q8,q9⟩:=RowAt.facts10 (row_set10 (vs:=noV) noV HB5.out)
    unfold dcells noV at q0 q1 q2 q3 q4 q5 q6 q7 q8 q9
    dsimp only at q0 q1 q2 q3 q4 q5 q6 q7 q8 q9
    refine bodyPost_ret (v:=.tuple #[dv noV,.int .i64 0,.int .i64 6]) (by rw [dv_noV];unfold dnoV;simp [results,Tryz.results18,go_sem,q0,q1,q2,q3,q4,q5,q6,q7,q8,q9]) rfl ⟨below_setL (Nat.le_succ _) (dcells noV) 0 HX5.out,?_⟩
    first | rw [← HRES.out,if_pos rfl,HR.out] | rw [← HRES.out,HR.out]
    rfl
   | some r =>
    obtain ⟨T,S,n⟩:=r
    obtain ⟨zs,rfl,hzs⟩:=hm5
    obtain ⟨A,hA1,hA2⟩:=heads (vs:=zs) (fun i hi=>by obtain ⟨a,c,b,d,e,_⟩:=(hzs i hi).pair;exact ⟨_,_,_,_,_,_,e⟩)
    have HZ:Hid (DicOwn w3.heap.size w5 (hv A) (upd D k (T,S))):=hid (fun i hi=>by rw [← hA1 i hi];exact hzs i hi)
    rw [show dv zs = dv (hv A) from by unfold dv;rw [hA2]]
    clear hA1 hA2 hzs
    unfold dv dcells hv
    dsimp only
    go_wp2_with fail
    rw [set10]
    clear d0 d1 d2 d3 d4 d5 d6 d7 d8 d9 g0 g1 g2 g3 g4 g5 g6 g7 g8 g9
    obtain ⟨q0,q1,q2,q3,q4,q5,q6,q7,q8,q9⟩:=RowAt.facts10 (row_set10 (vs:=noV) (hv A) HB5.out)
    refine bodyPost_ret (v:=.tuple #[dv (hv A),.int .i64 n,.int .i64 0]) ?_ rfl ⟨below_setL (Nat.le_succ _) (dcells (hv A)) 0 HX5.out,?_⟩
    ·unfold dv dcells hv at *
     simp [results,Tryz.results18,go_sem,q0,q1,q2,q3,q4,q5,q6,q7,q8,q9]
    ·first | rw [← HRES.out,if_pos rfl,HR.out] | rw [← HRES.out,HR.out]
     refine ⟨_,rfl,?_⟩
     have hz1:=HB2.out.lt
     have hz3:=hx3.size
     exact fun i hi=>((HZ.out i hi).setL (by omega) _ 0).base (by omega)
end

/- The reference's dictionaries: Of, Same, Id. -/
section
open Go.RowKit Go.Shelf Go.Sort
attribute [local go_sem] Oper.semAt_some wide_fn wide_depth
def ncells (ns:Nat → Value):List Value:=[ns 0,ns 1,ns 2,ns 3,ns 4]
def nv (ns:Nat → Value):Value:=.agg (ncells ns).toArray
abbrev Nms:=Nat → List ByteArray
def NamV (w:World) (ns:Nat → Value) (N:Nms):Prop:=∀ i,i < 5 → Strs w (ns i) (N i)
def ofD (D:Dic):Nms:=fun i=>(D i).1
def ofV (vs:Nat → Value × Value):Nat → Value:=fun i=>(vs i).1
theorem NamV.ext {w w':World} {ns:Nat → Value} {N:Nms} (h:NamV w ns N) (hx:Ext w w'):NamV w' ns N:=fun i hi=>(h i hi).ext hx
theorem DicV.names {w:World} {vs:Nat → Value × Value} {D:Dic} (h:DicV w vs D):NamV w (ofV vs) (ofD D):=fun i hi=>by
 obtain ⟨a,n,c,b,m,d,e,h1,_⟩:=h i hi
 unfold ofV ofD
 rw [e];exact h1
def sameN (M N:Nms):Bool:=decide (M 0 = N 0) && (decide (M 1 = N 1) && (decide (M 2 = N 2) && (decide (M 3 = N 3) && decide (M 4 = N 4))))
theorem sameN_iff {M N:Nms}:sameN M N = true ↔ ∀ i,i < 5 → M i = N i:=by
 unfold sameN
 simp only [Bool.and_eq_true,decide_eq_true_eq]
 constructor
 ·rintro ⟨h0,h1,h2,h3,h4⟩ i hi
  have hc:i = 0 ∨ i = 1 ∨ i = 2 ∨ i = 3 ∨ i = 4:=by omega
  rcases hc with rfl | rfl | rfl | rfl | rfl <;> assumption
 ·intro h;exact ⟨h 0 (by omega),h 1 (by omega),h 2 (by omega),h 3 (by omega),h 4 (by omega)⟩
theorem ncells_at (ns:Nat → Value) {k:Nat} (h:k < 5):(ncells ns)[k]? = some (ns k):=by
 have hc:k = 0 ∨ k = 1 ∨ k = 2 ∨ k = 3 ∨ k = 4:=by omega
 rcases hc with rfl | rfl | rfl | rfl | rfl <;> rfl
theorem ncells_upd (ns:Nat → Value) {k:Nat} (h:k < 5) (x:Value):ncells (upd ns k x) = (ncells ns).set k x:=by
 have hc:k = 0 ∨ k = 1 ∨ k = 2 ∨ k = 3 ∨ k = 4:=by omega
 rcases hc with rfl | rfl | rfl | rfl | rfl <;> rfl
theorem RowAt.facts5 {w:World} {g:Nat} {t:TypeId} {ns:Nat → Value} (h:RowAt w g t (ncells ns)):w.cell? ⟨g,0,none⟩ = some (ns 0) ∧ w.cell? ⟨g,1,none⟩ = some (ns 1) ∧ w.cell? ⟨g,2,none⟩ = some (ns 2) ∧ w.cell? ⟨g,3,none⟩ = some (ns 3) ∧ w.cell? ⟨g,4,none⟩ = some (ns 4) :=
 ⟨h.cell (i:=0) rfl,h.cell (i:=1) rfl,h.cell (i:=2) rfl,h.cell (i:=3) rfl,h.cell (i:=4) rfl⟩
theorem RowAt.facts5f {w:World} {g:Nat} {t:TypeId} {xs:List Value} (h:RowAt w g t xs):w.frozen? ⟨g,0,none⟩ = false ∧ w.frozen? ⟨g,1,none⟩ = false ∧ w.frozen? ⟨g,2,none⟩ = false ∧ w.frozen? ⟨g,3,none⟩ = false ∧ w.frozen? ⟨g,4,none⟩ = false :=
 ⟨h.frozen 0,h.frozen 1,h.frozen 2,h.frozen 3,h.frozen 4⟩
theorem set5 (W:World) (g:Nat) (x0 x1 x2 x3 x4:Value):(((((W.setCell ⟨g,0,none⟩ x0).setCell ⟨g,1,none⟩ x1).setCell ⟨g,2,none⟩ x2).setCell ⟨g,3,none⟩ x3).setCell ⟨g,4,none⟩ x4) = setL W g 0 [x0,x1,x2,x3,x4]:=rfl
theorem row_set5 {g:Nat} {t:TypeId} {ns:Nat → Value} {W:World} (ms:Nat → Value) (h:RowAt W g t (ncells ns)):RowAt (setL W g 0 (ncells ms)) g t (ncells ms):=row_setL (ncells ms) [] (ncells ns) h rfl
def noN:Nat → Value:=fun _=>.slice none 0 0
structure OfI (w:World) (vs:Nat → Value × Value) (k:Nat) (ns:Nat → Value) (W:World):Prop where
 ext:Ext w W
 out:RowAt W (w.heap.size + 1) 193 (ncells noN)
 d:RowAt W (w.heap.size + 1 + 1) 193 (ncells ns)
 is_:∀ i,i < k → ns i = ofV vs i
theorem OfI.grow {w:World} {vs:Nat → Value × Value} {k:Nat} {ns:Nat → Value} {W W':World} (h:OfI w vs k ns W) (hx:Ext W W'):OfI w vs k ns W':=⟨h.ext.trans hx,h.out.ext hx,h.d.ext hx,h.is_⟩
theorem OfI.next {w:World} {vs:Nat → Value × Value} {k:Nat} {ns:Nat → Value} {W:World} (h:OfI w vs k ns W) (hk:k < 5):OfI w vs (k + 1) (upd ns k (ofV vs k)) (W.setCell ⟨w.heap.size + 1 + 1,k,none⟩ (ofV vs k)):=by
 refine ⟨h.ext.setCell (p:=⟨w.heap.size + 1 + 1,k,none⟩) (by show w.heap.size ≤ w.heap.size + 1 + 1;omega) _,RowAt.set_ne h.out (by omega),?_,fun i hi=>?_⟩
 ·rw [ncells_upd ns hk];exact h.d.set k _
 ·by_cases e:i = k
  ·subst e;rw [upd_at]
  ·rw [upd_ne _ _ e];exact h.is_ i (by omega)
theorem of_any (vs:Nat → Value × Value) (hsh:∀ i,i < 5 → ∃ a n c b m d,vs i = (.slice a n c,.slice b m d)) (w:World) :
 Calls Tryz.prog 130 #[dv vs] w fun e w'=>e = .returned (nv (ofV vs)) ∧ Ext w w':=by
 have hI0:OfI w vs 0 noN (((w.alloc (.cells (dcells vs).toArray 28)).alloc (.cells (ncells noN).toArray 193)).alloc (.cells (ncells noN).toArray 193)) :=
  ⟨((Ext.alloc _ _).trans (Ext.alloc _ _)).trans (Ext.alloc _ _),(row_at (xs:=ncells noN) (by simp)).ext (Ext.alloc _ _),row_at (by simp),fun i h=>by omega⟩
 have hd0:RowAt (((w.alloc (.cells (dcells vs).toArray 28)).alloc (.cells (ncells noN).toArray 193)).alloc (.cells (ncells noN).toArray 193)) w.heap.size 28 (dcells vs):=((RowAt.new w _ (dcells vs)).ext (Ext.alloc _ _)).ext (Ext.alloc _ _)
 have hdc:(dcells vs).toArray = #[(vs 0).1,(vs 0).2,(vs 1).1,(vs 1).2,(vs 2).1,(vs 2).2,(vs 3).1,(vs 3).2,(vs 4).1,(vs 4).2]:=rfl
 have hdn:(ncells noN).toArray = #[.slice none 0 0,.slice none 0 0,.slice none 0 0,.slice none 0 0,.slice none 0 0]:=rfl
 have HIX:=hid (ix_any vs)
 have HSH:=hid hsh
 unfold dv
 rw [hdc]
 simp only [hdc,hdn] at hI0 hd0
 clear hsh hdc hdn
 have HI0:=hid hI0
 have HD0:=hid hd0
 clear hI0 hd0
 go_enter Tryz.func130,Tryz.ntmps130
 go_upto_region 2 with fail
 replace HI0:=HI0.out
 replace HD0:=HD0.out
 generalize ((w.alloc (.cells #[(vs 0).1,(vs 0).2,(vs 1).1,(vs 1).2,(vs 2).1,(vs 2).2,(vs 3).1,(vs 3).2,(vs 4).1,(vs 4).2] 28)).alloc (.cells #[.slice none 0 0,.slice none 0 0,.slice none 0 0,.slice none 0 0,.slice none 0 0] 193)).alloc (.cells #[.slice none 0 0,.slice none 0 0,.slice none 0 0,.slice none 0 0,.slice none 0 0] 193) = w1 at *
 obtain ⟨c0,c1,c2,c3,c4,c5,c6,c7,c8,c9⟩:=HD0.facts10
 go_wp2_with fail
 clear c0 c1 c2 c3 c4 c5 c6 c7 c8 c9
 go_loopg [8] 5 (fun g i wr=>∃ (k:Nat) (ns:Nat → Value),k ≤ 5 ∧ g = 5 - k ∧ i = .int .i64 k ∧ OfI w vs k ns wr)
 case atStart=>exact ⟨0,_,Nat.zero_le _,rfl,rfl,HI0⟩
 case round =>
  obtain ⟨k,ns,hk,hg,rfl,hI⟩:=hrel
  have HI:=hid hI
  have Hg:=hid hg
  clear hI hg HI0 HD0
  by_cases hlt:k < 5
  ·obtain ⟨a,n,c,b,m,d,hv⟩:=HSH.out k hlt
   have hix:=HIX.out k hlt
   rw [hv] at hix
   dsimp only at hix
   have hov:Hid (ofV vs k = .slice a n c):=hid (by unfold ofV;rw [hv])
   have hN:=(HI.out.grow (Ext.alloc wr (.cells #[.slice a n c,.slice b m d] 25))).next hlt
   rw [hov.out] at hN
   have hd:=HI.out.d.ext (Ext.alloc wr (.cells #[.slice a n c,.slice b m d] 25))
   have r0:=hd.cell (i:=k) (ncells_at ns hlt)
   have f0:=hd.frozen k
   have HN:=hid hN
   have hki:(k:Int) < 5:=by omega
   clear hN hd hv
   go_wp2_with fail
   go_roundg (5 - (k + 1))
   case measure=>have:=Hg.out;omega
   case rel=>exact ⟨k + 1,_,by omega,rfl,by go_num,HN.out⟩
  ·obtain rfl:k = 5:=by omega
   obtain ⟨c0,c1,c2,c3,c4⟩:=HI.out.d.facts5
   obtain ⟨d0,d1,d2,d3,d4⟩:=RowAt.facts5 (ns:=noN) HI.out.out
   obtain ⟨g0,g1,g2,g3,g4⟩:=HI.out.out.facts5f
   simp only [noN] at d0 d1 d2 d3 d4
   obtain ⟨A,hA1,hA2⟩:=heads HSH.out
   have HA:Hid (∀ i,i < 5 → ofV vs i = (hv A i).1):=hid (fun i hi=>by unfold ofV;rw [hA1 i hi])
   have HNV:Hid (nv (ofV vs) = nv (fun i=>(hv A i).1)):=hid (by unfold nv ncells;rw [HA.out 0 (by omega),HA.out 1 (by omega),HA.out 2 (by omega),HA.out 3 (by omega),HA.out 4 (by omega)])
   clear hA1 hA2
   rw [HI.out.is_ 0 (by omega)] at c0
   rw [HI.out.is_ 1 (by omega)] at c1
   rw [HI.out.is_ 2 (by omega)] at c2
   rw [HI.out.is_ 3 (by omega)] at c3
   rw [HI.out.is_ 4 (by omega)] at c4
   rw [HA.out 0 (by omega)] at c0
   rw [HA.out 1 (by omega)] at c1
   rw [HA.out 2 (by omega)] at c2
   rw [HA.out 3 (by omega)] at c3
   rw [HA.out 4 (by omega)] at c4
   unfold hv at *
   dsimp only at c0 c1 c2 c3 c4
   go_wp2
   rw [set5]
   clear d0 d1 d2 d3 d4 c0 c1 c2 c3 c4 g0 g1 g2 g3 g4
   have hro:=row_set5 (fun i=>(hv A i).1) HI.out.out
   obtain ⟨q0,q1,q2,q3,q4⟩:=RowAt.facts5 hro
   refine bodyPost_ret (v:=nv (fun i=>(hv A i).1)) ?_ rfl ⟨by rw [HNV.out];rfl,below_setL (Nat.le_succ _) (ncells (fun i=>(hv A i).1)) 0 HI.out.ext⟩
   unfold hv at *
   unfold nv ncells at *
   simp [results,Tryz.results130,go_sem,q0,q1,q2,q3,q4]
def idN (N:Nms) (kind:Int) (s:ByteArray):Int:=if 0 ≤ kind ∧ kind < 5 then findF (N kind.toNat) s else -1
theorem refId_any (ns:Nat → Value) (N:Nms) (kind:Int) (s:ByteArray) (w:World) (hN:NamV w ns N) :
 Calls Tryz.prog 129 #[nv ns,.int .i64 kind,.string s] w fun e w'=>e = .returned (.int .i64 (idN N kind s)) ∧ Ext w w':=by
 have hd0:RowAt (w.alloc (.cells (ncells ns).toArray 193)) w.heap.size 193 (ncells ns):=RowAt.new w _ (ncells ns)
 have hdc:∀ ns:Nat → Value,(ncells ns).toArray = #[ns 0,ns 1,ns 2,ns 3,ns 4]:=fun _=>rfl
 unfold nv
 simp only [hdc] at hd0 ⊢
 have HN:=hid hN
 have HD0:=hid hd0
 clear hd0 hdc hN
 by_cases hk:0 ≤ kind ∧ kind < 5
 ·obtain ⟨k,rfl⟩:=Int.eq_ofNat_of_zero_le hk.1
  have hk5:k < 5:=by omega
  have hr:Hid (idN N (k:Int) s = findF (N k) s):=hid (by unfold idN;rw [if_pos hk];rfl)
  have r0:=HD0.out.cell (i:=k) (ncells_at ns hk5)
  have h1:=HN.out k hk5
  have hf:=refFind_any (N k) s (ns k) _ (h1.ext (Ext.alloc w (.cells #[ns 0,ns 1,ns 2,ns 3,ns 4] 193)))
  obtain ⟨a,c,e1,_,_⟩:=Sl.shape h1
  rw [e1] at r0 hf
  have HF:=hid hf
  have hk2:(k:Int) < 5:=by omega
  clear hf h1 e1 hk
  go_enter Tryz.func129,Tryz.ntmps129
  go_wp2_with fail
  refine HF.out.mono ?_
  rintro e w2 ⟨rfl,rfl⟩
  go_wp2_with fail
  go_ret
  exact ⟨ret_int hr.out.symm,Ext.alloc _ _⟩
 ·have hr:Hid (idN N kind s = -1):=hid (by unfold idN;rw [if_neg hk])
  have hk':kind < 0 ∨ 4 < kind:=by omega
  clear hk
  rcases hk' with h | h
  all_goals
   go_enter Tryz.func129,Tryz.ntmps129
   go_wp2_with fail
   go_ret
   exact ⟨ret_int hr.out.symm,Ext.alloc _ _⟩
end

/- The law's own dictionaries: a copy in memory of its own. -/
section
open Go.RowKit Go.Shelf Go.Sort
attribute [local go_sem] Oper.semAt_some wide_fn wide_depth
theorem Sl.take {w:World} {a:Option Addr} {n cap:Nat} {xs:List Value} (h:Sl w (.slice a n cap) n xs) (hx:xs.length = n) (m:Nat) (hm:m ≤ n):Sl w (.slice a m cap) m (xs.take m):=by
 obtain ⟨a',cap',e,h1,h2,h3⟩:=h
 simp only [Value.slice.injEq] at e
 obtain ⟨rfl,_,rfl⟩:=e
 refine ⟨a,cap,rfl,by omega,h2,fun hp=>?_⟩
 obtain ⟨b,o,e,hc⟩:=h3 (by rw [List.length_take] at hp;omega)
 refine ⟨b,o,e,fun i u hu=>hc i u ?_⟩
 rw [List.getElem?_take] at hu
 split at hu
 ·exact hu
 ·cases hu
theorem Strs.take {w:World} {a:Option Addr} {n cap:Nat} {l:List ByteArray} (h:Strs w (.slice a n cap) l) (m:Nat) (hm:m ≤ n):Strs w (.slice a m cap) (l.take m):=by
 have hl:=h.len
 unfold Strs at *
 rw [hl] at h
 have:=Sl.take h (by simp [hl]) m hm
 rw [List.map_take,List.length_take,hl,Nat.min_eq_left hm]
 exact this
theorem Ints.take {w:World} {kd:IntKind} {a:Option Addr} {n cap:Nat} {l:List Int} (h:Ints w kd (.slice a n cap) l) (m:Nat) (hm:m ≤ n):Ints w kd (.slice a m cap) (l.take m):=by
 have hl:=h.len
 unfold Ints at *
 rw [hl] at h
 have:=Sl.take h (by simp [hl]) m hm
 rw [List.map_take,List.length_take,hl,Nat.min_eq_left hm]
 exact this
def cutD (D:Dic):Dic:=fun i=>((D i).1.take 129,(D i).2.take 512)
structure LoI (w:World) (D:Dic) (k:Nat) (ts:Nat → Value × Value) (W:World):Prop where
 below:Ext w W
 out:RowAt W (w.heap.size + 1) 28 (dcells noV)
 d:RowAt W w.heap.size 28 (dcells ts)
 own:∀ i,i < k → TabOwn (w.heap.size + 1 + 1) W (.agg #[(ts i).1,(ts i).2]) (cutD D i).1 (cutD D i).2
theorem LoI.ext {w:World} {D:Dic} {k:Nat} {ts:Nat → Value × Value} {W W':World} (h:LoI w D k ts W) (hx:Ext W W'):LoI w D k ts W' :=
 ⟨h.below.trans hx,h.out.ext hx,h.d.ext hx,fun i hi=>(h.own i hi).ext hx⟩
theorem LoI.next {w:World} {D:Dic} {k:Nat} {ts:Nat → Value × Value} {W:World} (h:LoI w D k ts W) (hk:k < 5) {T:List ByteArray} {S:List Int} (hT:(cutD D k).1 = T) (hS:(cutD D k).2 = S) {ua ub:Option Addr} {ca cb:Nat} {wa wb:World}
 (hxa:Ext W wa) (ha:wa.ownsRow W.heap.size 9 1 (.slice ua T.length ca) T.length (T.map Value.string)) (hxb:Ext wa wb) (hb:wb.ownsRow wa.heap.size 3 1 (.slice ub S.length cb) S.length (S.map (Value.int .i64))) :
 LoI w D (k + 1) (upd ts k (.slice ua T.length ca,.slice ub S.length cb)) ((wb.setCell ⟨w.heap.size,k * 2,none⟩ (.slice ua T.length ca)).setCell ⟨w.heap.size,k * 2 + 1,none⟩ (.slice ub S.length cb)):=by
 have hI:=(h.ext hxa).ext hxb
 have hz:=h.out.lt
 have h1:=hxa.size
 refine ⟨?_,?_,row_upd hI.d hk _ _,?_⟩
 ·exact (hI.below.setCell (p:=⟨w.heap.size,k * 2,none⟩) (Nat.le_refl _) _).setCell (p:=⟨w.heap.size,k * 2 + 1,none⟩) (Nat.le_refl _) _
 ·exact (RowAt.set_ne (RowAt.set_ne hI.out (by omega)) (by omega))
 ·intro i hi
  by_cases e:i = k
  ·subst e
   rw [upd_at,hT,hS]
   refine (TabOwn.setL (g:=w.heap.size) ?_ (by omega) [_] _).setL (by omega) [_] _
   exact ⟨_,_,_,_,_,_,rfl,own_base (own_ext ha hxb) (by omega),own_base hb (by omega)⟩
  ·rw [upd_ne _ _ e]
   exact ((hI.own i (by omega)).setL (by omega) [_] _).setL (by omega) [_] _
def groLaw:Nat → Gro
 | 3=>.read
 | 5=>.read
 | 11=>.read
 | 13=>.read
 | 9=>.grow
 | 17=>.grow
 | 21=>.write
 | 25=>.write
 | _=>.pure
end

/- Are two dictionaries the same, slot by slot? Is one of nothing? -/
section
open Go.RowKit Go.Shelf Go.Sort
attribute [local go_sem] Oper.semAt_some wide_fn wide_depth
end

/- Are two dictionaries of the same names? -/
section
open Go.RowKit Go.Shelf Go.Sort
attribute [local go_sem] Oper.semAt_some wide_fn wide_depth
end

/- The reference's Right. -/
section
open Go.RowKit Go.Shelf Go.Sort
attribute [local go_sem] Oper.semAt_some wide_fn wide_depth
theorem dright_any (vs:Nat → Value × Value) (D:Dic) (w:World) (hV:DicV w vs D) (hS:DicS D) :
 Calls Tryz.prog 11 #[dv vs] w fun e w'=>∃ r,e = .returned (.bool r) ∧ (r = true ↔ DicOK D) ∧ Ext w w':=by
 have hd0:RowAt (w.alloc (.cells (dcells vs).toArray 28)) w.heap.size 28 (dcells vs):=RowAt.new w _ (dcells vs)
 have hx1:Ext w (w.alloc (.cells (dcells vs).toArray 28)):=Ext.alloc _ _
 have hdc:∀ vs:Nat → Value × Value,(dcells vs).toArray = #[(vs 0).1,(vs 0).2,(vs 1).1,(vs 1).2,(vs 2).1,(vs 2).2,(vs 3).1,(vs 3).2,(vs 4).1,(vs 4).2]:=fun _=>rfl
 have HIX:=hid (ix_any vs)
 unfold dv
 simp only [hdc] at hd0 hx1 ⊢
 have HD0:=hid hd0
 have HX1:=hid hx1
 have HV:=hid hV
 have HS:=hid hS
 clear hd0 hx1 hdc hV hS
 go_enter Tryz.func11,Tryz.ntmps11
 go_upto_region 1 with fail
 replace HD0:=HD0.out
 replace HX1:=HX1.out
 generalize w.alloc (.cells #[(vs 0).1,(vs 0).2,(vs 1).1,(vs 1).2,(vs 2).1,(vs 2).2,(vs 3).1,(vs 3).2,(vs 4).1,(vs 4).2] 28) = w1 at *
 obtain ⟨c0,c1,c2,c3,c4,c5,c6,c7,c8,c9⟩:=HD0.facts10
 go_wp2_with fail
 clear c0 c1 c2 c3 c4 c5 c6 c7 c8 c9 HD0
 go_loopg [9] 5 (fun g i wr=>∃ (k:Nat),k ≤ 5 ∧ g = 5 - k ∧ i = .int .i64 k ∧ Ext w1 wr ∧ ∀ j,j < 5 → j < k → KindOK j (D j))
 case atStart=>exact ⟨0,Nat.zero_le _,rfl,rfl,Ext.refl _,fun j _ h=>by omega⟩
 case round =>
  obtain ⟨k,hk,hg,rfl,hxr,hall⟩:=hrel
  have Hall:=hid hall
  have Hg:=hid hg
  clear hg hall
  by_cases hlt:k < 5
  ·obtain ⟨a,n,c,b,m,d,hv,hT,hSl⟩:=HV.out k hlt
   obtain ⟨hD1,hD2,hD3⟩:=HS.out k hlt
   have hix:=HIX.out k hlt
   rw [hv] at hix
   dsimp only at hix
   have hx2:Ext w (wr.alloc (.cells #[.slice a n c,.slice b m d] 25)):=(HX1.trans hxr).trans (Ext.alloc _ _)
   have hbx:RowAt (wr.alloc (.cells #[.slice a n c,.slice b m d] 25)) wr.heap.size 25 [.slice a n c,.slice b m d]:=RowAt.new _ _ _
   have hm:m ≤ 1048576:=by have:=hSl.len;omega
   have hn:=hT.len
   have hrt:=right_any (D k).1 (D k).2 a n c b m d _ (hT.ext hx2) (hSl.ext hx2) hm hD3
   have HRT:=hid hrt
   have HBX:=hid hbx
   have HT:=hid (hT.ext hx2)
   have HX2:=hid hx2
   have HXA:=hid (hxr.trans (Ext.alloc wr (.cells #[.slice a n c,.slice b m d] 25)))
   have HD3:=hid hD3
   clear hT hSl hv hbx hx2 hrt HIX hD3 hD1 hD2 hm
   go_upto_region 4 with fail
   replace HBX:=HBX.out
   replace HT:=HT.out
   replace HX2:=HX2.out
   replace HXA:=HXA.out
   replace HRT:=HRT.out
   generalize wr.alloc (.cells #[.slice a n c,.slice b m d] 25) = wq at *
   obtain ⟨p1,p2,_,_⟩:=HBX.facts2
   have HRT:=hid HRT
   go_wp2_with fail
   refine HRT.out.mono ?_
   rintro e w2 ⟨r,rfl,hr,hx3⟩
   have Hr:=hid (hr.trans right_iff)
   clear hr
   have q1:=ext_cell hx3 p1
   have q2:=ext_cell hx3 p2
   clear p1 p2
   cases r with
   | false =>
    have hno:Hid (¬ DicOK D):=hid (fun h=>by have:=Hr.out.2 (h k hlt).1;cases this)
    go_wp2_with fail
    go_ret
    exact ⟨false,rfl,⟨fun h=>(by cases h),fun h=>absurd h hno.out⟩,HX2.trans hx3⟩
   | true =>
    by_cases hl:128 < n
    ·have hd:decide ((128:Int) < (n:Int)) = true:=decide_eq_true (by omega)
     have hno:Hid (¬ DicOK D):=hid (fun h=>by have:=(h k hlt).2.1;omega)
     go_wp2_with fail
     go_ret
     exact ⟨false,rfl,⟨fun h=>(by cases h),fun h=>absurd h hno.out⟩,HX2.trans hx3⟩
    ·have hd:decide ((128:Int) < (n:Int)) = false:=decide_eq_false (by omega)
     have HTt:=hid (HT.ext hx3)
     have HXt:=hid (HX2.trans hx3)
     have HXBt:=hid (HXA.trans hx3)
     clear HT
     go_wp2_with fail
     go_loopg [25] n (fun g i wi=>∃ (j:Nat),j ≤ n ∧ g = n - j ∧ i = .int .i64 j ∧ Ext w2 wi ∧ badB (k:Int) ((D k).1.take j) = false)
     case atStart=>exact ⟨0,Nat.zero_le _,rfl,rfl,Ext.refl _,rfl⟩
     case round =>
      obtain ⟨j,hj,hg2,rfl,hxj,hb⟩:=hrel
      have Hb:=hid hb
      have Hg2:=hid hg2
      clear hb hg2
      by_cases hlj:j < n
      ·have hlj':j < (D k).1.length:=by omega
       obtain ⟨bl,ol,rfl,c0⟩:=(HTt.out.ext hxj).at_ hlj'
       have hm:=fun w'=>refMay_any (k:Int) (D k).1[j] w' (HD3.out _ (List.getElem_mem hlj'))
       have hsn:=badB_take (k:Int) (D k).1 j hlj'
       have hmem:=fun h=>badB_mem (k:=(k:Int)) hlj' h
       rw [Hb.out,Bool.false_or] at hsn
       generalize mayB (k:Int) (bts (D k).1[j]) = mb at *
       generalize (D k).1[j] = s at *
       have HM:=hid hm
       have HSN:=hid hsn
       have HMEM:=hid hmem
       clear hm hsn hmem
       cases mb with
       | true =>
        go_wp2_with fail
        refine (HM.out _).mono ?_
        rintro e w4 ⟨rfl,rfl⟩
        go_wp2_with fail
        go_roundg (n - (j + 1))
        case measure=>have:=Hg2.out;omega
        case rel=>exact ⟨j + 1,by omega,rfl,by go_num,hxj,HSN.out⟩
       | false =>
        have hno:Hid (¬ DicOK D):=hid (fun h=>by have:=(h k hlt).2.2;rw [HMEM.out rfl] at this;cases this)
        go_wp2_with fail
        refine (HM.out _).mono ?_
        rintro e w4 ⟨rfl,rfl⟩
        go_wp2_with fail
        go_ret
        exact ⟨false,rfl,⟨fun h=>(by cases h),fun h=>absurd h hno.out⟩,HXt.out.trans hxj⟩
      ·have hb:=Hb.out
       rw [List.take_of_length_le (by omega)] at hb
       have HOK:Hid (KindOK k (D k)):=hid ⟨Hr.out.1 trivial,by omega,hb⟩
       clear hb
       go_wp2_with fail
       go_roundg (5 - (k + 1))
       case measure=>have:=Hg.out;omega
       case rel=>exact ⟨k + 1,by omega,rfl,by go_num,HXBt.out.trans hxj,fun i hi h=>by
        by_cases e:i = k
        ·subst e;exact HOK.out
        ·exact Hall.out i hi (by omega)⟩
  ·have HF:Hid (DicOK D):=hid (fun i hi=>Hall.out i hi (by omega))
   go_wp2_with fail
   go_ret
   exact ⟨true,rfl,⟨fun _=>HF.out,fun _=>rfl⟩,HX1.trans hxr⟩
end

/- The reference's Put. -/
section
open Go.RowKit Go.Shelf Go.Sort
attribute [local go_sem] Oper.semAt_some wide_fn wide_depth
theorem grown_setL {g:Nat}:∀ (xs:List Value) (i:Nat) (W:World),W.grownBy (setL W g i xs) (some g)
 | [],_,W=>(grown_ext (Ext.refl W)).but _
 | x :: xs,i,W=>(grown_set W g i x).trans (grown_setL xs (i + 1) _)
end

/- A dictionary in memory of its own is written over. -/
section
open Go.RowKit Go.Shelf Go.Sort
attribute [local go_sem] Oper.semAt_some wide_fn wide_depth
end

/- A dictionary's bytes. -/
section
open Go.RowKit Go.Shelf Go.Sort
attribute [local go_sem] Oper.semAt_some wide_fn wide_depth
def SmallN (N:Nms):Prop:=∀ i,i < 5 → (N i).length ≤ 128 ∧ ∀ s ∈ N i,s.size ≤ 40
theorem mayB_size {k:Int} {l:List UInt8} (h:mayB k l = true):l.length ≤ 40:=by
 unfold mayB at h
 simp only [Bool.and_eq_true,decide_eq_true_eq] at h
 obtain ⟨_,_,h⟩:=h
 split at h
 ·unfold dworthB dallB at h;simp only [Bool.and_eq_true,decide_eq_true_eq] at h;exact h.2.2
 ·unfold nameB dallB at h;simp only [Bool.and_eq_true,decide_eq_true_eq] at h;omega
theorem badB_all {k:Int} {T:List ByteArray} (h:badB k T = false):∀ s ∈ T,mayB k (bts s) = true:=fun s hs=>by
 cases hm:mayB k (bts s) with
 | true=>rfl
 | false =>
  have:badB k T = true:=by unfold badB;rw [List.any_eq_true];exact ⟨s,hs,by rw [hm];rfl⟩
  rw [h] at this;cases this
theorem DicOK.small {D:Dic} (h:DicOK D):SmallN (ofD D):=fun i hi=>⟨(h i hi).2.1,fun s hs=>by
 have:=mayB_size (badB_all (h i hi).2.2 s hs)
 rw [bts_len] at this;exact this⟩
end

/- A dictionary's bytes. -/
section
open Go.RowKit Go.Shelf Go.Sort
attribute [local go_sem] Oper.semAt_some wide_fn wide_depth
end

/- The reference's bytes. -/
section
open Go.RowKit Go.Shelf Go.Sort
attribute [local go_sem] Oper.semAt_some wide_fn wide_depth
end

/- The reference's reading of a number. -/
section
open Go.RowKit
end

/- Reading numbers and texts. -/
section
open Go.RowKit
end

/- Does a text stand in a row? The names of a kind that stand at a place. -/
section
open Go.RowKit Go.Shelf Go.Sort
end

/- What is read, put one by one, is a dictionary. -/
section
open Go.RowKit Go.Shelf Go.Sort
end

/- The dictionary that stands at a place. -/
section
open Go.RowKit Go.Shelf Go.Sort
attribute [local go_sem] Oper.semAt_some wide_fn wide_depth
end

/- The names that stand at a place, by the reference. -/
section
open Go.RowKit Go.Shelf Go.Sort
attribute [local go_sem] Oper.semAt_some wide_fn wide_depth
end

end Go.Proofs.YtkmbnghghbfkdaaGreat
