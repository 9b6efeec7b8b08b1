/- A region that draws its order: operations that leave all as it was (their callees may make memory), ahead of a forced tail that writes. No program in sight. -/
import Derived.Test.YtkmbnghghbfkdaaGreatGp00
import Derived.StillTail
import Derived.ProofKit
import Derived.OpenShut
import Derived.Deep.Slices
import Derived.SliceStrings
import Derived.Laws.CopyOwn
import Derived.Laws.IdiomCopy
import Derived.Laws.MakeOwn
import Derived.Deep.DeepCutAuto
import Derived.Deep.CutBlock
import Derived.Deep.LoopGhost
import Derived.Deep.RegionHeld3
import Derived.Deep.RegionLaw
import Derived.Deep.RegionWith
import Derived.IntWalk
import Derived.Outline
import Derived.Maps.RangeRun
import Derived.Laws.RangeAny
import Derived.Laws.EntriesVeiled
set_option linter.unusedSimpArgs false
set_option linter.unusedVariables false
set_option maxHeartbeats 2000000
set_option maxRecDepth 100000
namespace Go.Proofs.YtkmbnghghbfkdaaGreat
open Go.Lib (hid)

section
open Go.RowKit Go.Sort
section
variable {P:Program} {md:Region.Mode} {ops:Array Oper} {C:World → Prop}
def headQ (P:Program) (md:Region.Mode) (ops:Array Oper) (C:World → Prop) (n:Nat) (L:Array Bool → Act → Prop):Nat → Array Bool → Act → Prop
 | 0,listed,a=>L listed a
 | f + 1,listed,a=>Region.ready md ops listed ≠ [] ∧ ∀ i ∈ Region.ready md ops listed,i < n ∧ qOp P ops C i (headQ P md ops C n L f (listed.setIfInBounds i true)) a
theorem wpAny_of_headQ {n g:Nat} {L:Array Bool → Act → Prop} {Q':Exit → Act → World → Prop} (hL:∀ listed a w,C w → L listed a → wpAny P md ops Q' g listed a w) :
 ∀ (f:Nat) (listed:Array Bool) (a:Act) (w:World),C w → headQ P md ops C n L f listed a → wpAny P md ops Q' (f + g) listed a w
 | 0,listed,a,w,hw,h=>by rw [Nat.zero_add];exact hL _ _ _ hw h
 | f + 1,listed,a,w,hw,h=>by
  rw [show f + 1 + g = (f + g) + 1 by omega]
  exact ⟨fun h0=>absurd h0 h.1,fun i hi=>wpOp_of_qOp hw (fun a' w' hw' h'=>wpAny_of_headQ hL f _ a' w' hw' h') (h.2 i hi).2⟩
theorem headQ_first {n i:Nat} {oi:Oper} {v:Value} {L:Array Bool → Act → Prop} (hi:ops[i]? = some oi) (hsel:∀ (j:Nat) (o:Oper) cs b,ops[j]? = some o → o.op ≠ .select cs b)
 (hs:Region.sinkB md ops n = true) (hc:Region.chainB md ops n = true) (hn:n < ops.size) (hin:i < n) (hdone:∀ listed a,L listed a → ∀ j ∈ Region.ready md ops listed,n ≤ j) :
 ∀ (f:Nat) (listed:Array Bool) (a:Act),HeadInv md ops n listed →
  (∀ j oj,ops[j]? = some oj → j ≠ i → listed.getD j true = false → (∀ e ∈ oj.after,Region.binds md e = true → e.on ≠ i) → oi.apart ops oj = true) →
  i ∈ Region.ready md ops listed → YieldsIn P ops C oi v a → headQ P md ops C n L f (listed.setIfInBounds i true) (a.put oi.dst v) → headQ P md ops C n L (f + 1) listed a:=by
 intro f
 induction f with
 | zero =>
  intro listed a inv _ hr hy H
  have hun:=(mem_ready.1 hr).1
  refine ⟨fun h=>(by rw [h] at hr;cases hr),fun j hj=>?_⟩
  have hjn:j < n:=by
   refine Classical.byContradiction fun h=>?_
   exact tail_waits hs hc hn inv _ i rfl hin hun j (by omega) hj
  refine ⟨hjn,?_⟩
  by_cases hji:j = i
  ·subst hji;exact hy.qOp hi H
  ·have:=hdone _ _ H j (ready_mono hj hji)
   omega
 | succ f ih =>
  intro listed a inv hfree hr hy H
  have hun:=(mem_ready.1 hr).1
  refine ⟨fun h=>(by rw [h] at hr;cases hr),fun j hj=>?_⟩
  have hjn:j < n:=by
   refine Classical.byContradiction fun h=>?_
   exact tail_waits hs hc hn inv _ i rfl hin hun j (by omega) hj
  refine ⟨hjn,?_⟩
  by_cases hji:j = i
  ·subst hji;exact hy.qOp hi H
  ·obtain ⟨hjun,oj,hoj,hall⟩:=mem_ready.1 hj
   have hnot:∀ e ∈ oj.after,Region.binds md e = true → e.on ≠ i:=fun e he hb heq=>by
    have h1:=hall e he hb
    rw [heq,getD_both hun] at h1
    cases h1
   have h2:=qOp_put hoj (hfree j oj hoj hji hjun hnot) (fun cs b=>hsel i oi cs b hi) (fun cs b=>hsel j oj cs b hoj) hy (H.2 j (ready_mono hj hji)).2
   refine qOp_mono (fun a' h3=>ih (listed.setIfInBounds j true) a' (inv.set hj hjn) (fun k ok hk hki hunk hno=>?_) (ready_mono hr (Ne.symm hji)) h3.1 ?_) h2
   ·refine hfree k ok hk hki ?_ hno
    by_cases hjk:j = k
    ·subst hjk;exact hjun
    ·rwa [getD_set_ne true hjk] at hunk
   ·rw [Array.setIfInBounds_comm _ _ hji]
    exact h3.2
theorem headQ_lex {n g:Nat} {Lq:Act → Prop} (hsel:Region.noSelect ops = true) (hs:Region.sinkB md ops n = true) (hc:Region.chainB md ops n = true) (hn:n < ops.size) :
 ∀ (l:List Oper) (k:Nat) (listed:Array Bool) (a:Act),(∀ j,j < l.length → l[j]? = ops[k + j]?) → k + l.length = n → HeadInv md ops n listed →
 Region.lexHead md ops g l.length k listed = true → wpQuiet P ops C Lq l a →
 headQ P md ops C n (fun listed' a'=>Region.seqB md ops g n listed' = true ∧ Lq a') l.length listed a
 | [],k,listed,a,_,hk,_,hB,h=>by
  obtain rfl:k = n:=by simpa using hk
  exact ⟨by simpa [Region.lexHead] using hB,h⟩
 | o :: l,k,listed,a,hl,hk,inv,hB,h=>by
  have h0:ops[k]? = some o:=by simpa using (hl 0 (by simp)).symm
  simp only [List.length_cons,Region.lexHead,Bool.and_eq_true] at hB
  obtain ⟨⟨hr,hf⟩,hB'⟩:=hB
  have hkn:k < n:=by simp only [List.length_cons] at hk;omega
  have hr':k ∈ Region.ready md ops listed:=by simpa using hr
  obtain ⟨v,hy,hK⟩:=yieldsIn_of_qOp (C:=C) (K:=wpQuiet P ops C Lq l) (a:=a) h0 (by unfold qOp;simp only [h0];exact h)
  exact headQ_first h0 (Region.noSelect_spec hsel) hs hc hn hkn (fun listed' a' hL=>seqB_ready hL.1) l.length listed a inv (Region.free_spec h0 hf) hr' hy
   (headQ_lex hsel hs hc hn l (k + 1) _ _ (fun j hj=>by have:=hl (j + 1) (by simp;omega);simpa [Nat.add_assoc,Nat.add_comm 1 j] using this) (by simp only [List.length_cons] at hk;omega) (inv.set hr' hkn) hB' hK)
theorem wp_region_tail {id:Nat} {Q:Exit → Act → World → Prop} {a:Act} {w:World} {l:List Oper} (n:Nat) (hm:P.follows .mixedOrders = true) (hB:Region.lexTailB .any l.toArray n = true) (hC:C { w with drawn:=w.drawn + 1 })
 (h:wpQuiet P l.toArray C (fun a'=>∀ w',C w' → wpList P l.toArray Q (l.drop n) a' w') (l.take n) a):(Code.region id l.toArray true).wp P Q a w:=by
 simp only [Region.lexTailB,Bool.and_eq_true,decide_eq_true_eq] at hB
 obtain ⟨⟨⟨⟨hsel,hn⟩,hs⟩,hc⟩,hlex⟩:=hB
 have hn':n < l.length:=by simpa using hn
 have htl:(l.take n).length = n:=by simp;omega
 have hdl:(l.drop n).length = l.toArray.size - n:=by simp
 have inv0:HeadInv .any l.toArray n (Array.replicate l.toArray.size false) :=
  ⟨by simp,fun j oj _ hl=>(by rw [getD_replicate_false] at hl;cases hl),fun t _ ht=>getD_in (by simpa using ht) (getD_replicate_false _ _)⟩
 have H:=headQ_lex (md:=.any) (C:=C) (g:=l.toArray.size - n) (Lq:=fun a'=>∀ w',C w' → wpList P l.toArray Q (l.drop n) a' w') hsel hs hc hn (l.take n) 0 _ a (fun j hj=>by
  rw [htl] at hj
  rw [List.getElem?_take,if_pos hj];simp) (by rw [htl];simp) inv0 (by rw [htl];exact hlex) h
 have h2:=wpAny_of_headQ (Q':=Q) (fun listed a' w' hw' (hL:Region.seqB .any l.toArray (l.toArray.size - n) n listed = true ∧ ∀ w',C w' → wpList P l.toArray Q (l.drop n) a' w')=>by
  have:=wpAny_of_seq (md:=.any) (ops:=l.toArray) (Q':=Q) (l.drop n) n listed a' w' (fun j=>by simp) (by rw [hdl];exact hL.1) (hL.2 w' hw')
  rwa [hdl] at this) (l.take n).length _ a _ hC H
 refine wp_region_any hm ?_
 rw [htl,show n + (l.toArray.size - n) = l.toArray.size from by omega] at h2
 exact h2
theorem wp_region_tail_ext {id:Nat} {Q:Exit → Act → World → Prop} {a:Act} {w:World} {l:List Oper} (n:Nat) (hm:P.follows .mixedOrders = true) (hB:Region.lexTailB .any l.toArray n = true)
 (h:wpQuiet P l.toArray (fun w'=>∃ p:Regrown,w' = grow (redrawn w p.d) p.os) (fun a'=>∀ w',(∃ p:Regrown,w' = grow (redrawn w p.d) p.os) → wpList P l.toArray Q (l.drop n) a' w') (l.take n) a):(Code.region id l.toArray true).wp P Q a w :=
 wp_region_tail (C:=fun w'=>∃ p:Regrown,w' = grow (redrawn w p.d) p.os) n hm hB ⟨⟨w.drawn + 1,#[]⟩,by rw [grow_empty];rfl⟩ h
/-! The same within a round. -/
end
end

/- From the form's reading of an argument to my own views. -/
section
open Go.ChangeShapes Go.WideShapes Go.ChangeAt Go.RowKit
theorem open_Ints {H:Type} {enc:TypeId × Value → H} {P:Program} {w:World} {base:Nat} {spare:Nat → Bool} {held:Bool} {t e:TypeId} {k:IntKind} {a:Option Addr} {len cap:Nat} {d:DataW H} {p:List MemPlace}
 (ht:P.underlying t = some (.slice e)) (he:P.underlying e = some (.int k)) (hC:P.cellsOf e = 1) (h:DataW.Trod enc P w base spare held t (.slice a len cap) d p) :
 ∃ zs,Ints w k (.slice a len cap) zs ∧ ∀ n ∈ zs,(Lit.int k n).wf = true:=by
 obtain ⟨fuel,hf⟩:=h
 rcases open_ints ht he hC hf with ⟨hcs,_⟩ | ⟨x,l,c,zs,hcs,_,hl,hm,hz,_,hcell,hwz⟩
 ·simp [Value.cells] at hcs
  obtain ⟨rfl,rfl,rfl⟩:=hcs
  exact ⟨[],Sl.nil w,by simp⟩
 ·simp [Value.cells] at hcs
  obtain ⟨rfl,rfl,rfl⟩:=hcs
  have hlen:(zs.take len).length = len:=by rw [List.length_take];split at hz <;> omega
  refine ⟨zs.take len,⟨_,_,by rw [hlen],by omega,hm,fun hp=>?_⟩,fun n hn=>hwz n (List.mem_of_mem_take hn)⟩
  obtain ⟨b,o,spot⟩:=x
  have h0:0 < zs.length:=by simp at hp;omega
  have hs:spot = none:=by
   have:=hcell 0 h0
   simpa [Addr.add] using World.cell?_spot this
  subst hs
  refine ⟨b,o,rfl,fun i u hu=>?_⟩
  rw [List.getElem?_map,List.getElem?_take] at hu
  by_cases hi:i < len
  ·rw [if_pos hi] at hu
   have hiz:i < zs.length:=by split at hz <;> omega
   rw [List.getElem?_eq_getElem hiz] at hu
   simp at hu
   have:=hcell i hiz
   rw [addr_add] at this
   rw [this,← hu]
   simp [List.getD,hiz]
  ·rw [if_neg hi] at hu;simp at hu
end

/- Arguments that are slices of one-cell elements: texts, rows. -/
section
open Go.ChangeShapes Go.WideShapes Go.ChangeAt Go.RowKit Go.Deep
theorem choose_pairs {α:Type} (n:Nat) (V:Nat → Value) (Q:Value → α → Prop) (h:∀ i,i < n → ∃ x,Q (V i) x):∃ xs:List (Value × α),xs.length = n ∧ (∀ x ∈ xs,Q x.1 x.2) ∧ ∀ i,i < n → (xs.map Prod.fst)[i]? = some (V i):=by
 induction n with
 | zero=>exact ⟨[],rfl,fun x hx=>by simp at hx,fun i hi=>by omega⟩
 | succ n ih =>
  obtain ⟨xs,h1,h2,h3⟩:=ih (fun i hi=>h i (by omega))
  obtain ⟨x,hx⟩:=h n (by omega)
  refine ⟨xs ++ [(V n,x)],by simp [h1],?_,?_⟩
  ·intro y hy
   rcases List.mem_append.1 hy with hy | hy
   ·exact h2 y hy
   ·simp at hy;subst hy;exact hx
  ·intro i hi
   rw [List.map_append]
   by_cases hin:i < n
   ·rw [List.getElem?_append_left (by simp [h1];omega)];exact h3 i hin
   ·obtain rfl:i = n:=by omega
    rw [List.getElem?_append_right (by simp [h1])];simp [h1]
theorem open_Sl1 {α H:Type} {enc:TypeId × Value → H} {P:Program} {w:World} {base:Nat} {spare:Nat → Bool} {held:Bool} {t e:TypeId} {a:Option Addr} {len cap:Nat} {d:DataW H} {p:List MemPlace}
 (ht:P.underlying t = some (.slice e)) (hC:P.cellsOf e = 1) (h:DataW.Trod enc P w base spare held t (.slice a len cap) d p) (Q:Value → α → Prop)
 (hQ:∀ v y n,DataW.trod enc P w base spare held n e [v] = some y → ∃ x,Q v x) :
 ∃ xs:List (Value × α),Sl w (.slice a len cap) xs.length (xs.map Prod.fst) ∧ ∀ x ∈ xs,Q x.1 x.2:=by
 obtain ⟨fuel,hf⟩:=h
 rcases open_slice1 ht hC hf with ⟨hcs,_⟩ | ⟨x,l,c,m,n,V,D,Pl,hcs,_,hl,hm,hz,_,hcell⟩
 ·simp [Value.cells] at hcs
  obtain ⟨rfl,rfl,rfl⟩:=hcs
  exact ⟨[],Sl.nil w,fun x hx=>by simp at hx⟩
 ·simp [Value.cells] at hcs
  obtain ⟨rfl,rfl,rfl⟩:=hcs
  have hlm:len ≤ m:=by split at hz <;> omega
  obtain ⟨xs,h1,h2,h3⟩:=choose_pairs len V Q (fun i hi=>hQ _ _ _ (hcell i (by omega)).2)
  refine ⟨xs,⟨_,_,by rw [h1],by omega,hm,fun hp=>?_⟩,h2⟩
  obtain ⟨b,o,spot⟩:=x
  have h0:0 < m:=by simp at hp;omega
  have hs:spot = none:=by
   have:=(hcell 0 h0).1
   simpa [Addr.add] using World.cell?_spot this
  subst hs
  refine ⟨b,o,rfl,fun i u hu=>?_⟩
  have hi:i < len:=by
   have:=(List.getElem?_eq_some_iff.1 hu).1
   rwa [List.length_map,h1] at this
  rw [h3 i hi] at hu
  cases hu
  have:=(hcell i (by omega)).1
  rwa [addr_add] at this
def Strs (w:World) (v:Value) (ss:List ByteArray):Prop:=Sl w v ss.length (ss.map Value.string)
theorem pairs_eq {α:Type} (f:α → Value) (xs:List (Value × α)) (h:∀ x ∈ xs,x.1 = f x.2):xs.map Prod.fst = (xs.map Prod.snd).map f:=by
 rw [List.map_map]
 exact List.map_congr_left fun x hx=>h x hx
theorem open_Strs {H:Type} {enc:TypeId × Value → H} {P:Program} {w:World} {base:Nat} {spare:Nat → Bool} {held:Bool} {t e:TypeId} {a:Option Addr} {len cap:Nat} {d:DataW H} {p:List MemPlace}
 (ht:P.underlying t = some (.slice e)) (he:P.underlying e = some .string) (hC:P.cellsOf e = 1) (h:DataW.Trod enc P w base spare held t (.slice a len cap) d p) :
 ∃ ss,Strs w (.slice a len cap) ss ∧ ∀ s ∈ ss,s.size ≤ 9223372036854775807:=by
 obtain ⟨xs,h1,h2⟩:=open_Sl1 ht hC h (fun v (s:ByteArray)=>v = .string s ∧ s.size ≤ 9223372036854775807) (fun v y n hy=>by
  obtain ⟨s,e1,rfl,hs⟩:=DataW.trod_string he hy
  simp at e1
  unfold maxLen at hs
  exact ⟨s,e1,hs⟩)
 refine ⟨xs.map Prod.snd,?_,?_⟩
 ·unfold Strs
  rw [List.length_map,← pairs_eq Value.string xs (fun x hx=>(h2 x hx).1)]
  exact h1
 ·intro s hs
  obtain ⟨x,hx,rfl⟩:=List.mem_map.1 hs
  exact (h2 x hx).2
def RowsV (w:World) (k:IntKind) (v:Value) (xs:List (Value × List Int)):Prop:=Sl w v xs.length (xs.map Prod.fst) ∧ ∀ x ∈ xs,Ints w k x.1 x.2
theorem Sl.at_ {w:World} {a:Option Addr} {n c:Nat} {xs:List Value} (h:Sl w (.slice a n c) n xs) {k:Nat} (hk:k < xs.length):∃ b o,a = some ⟨b,o,none⟩ ∧ w.cell? ⟨b,o + k,none⟩ = some xs[k]:=by
 obtain ⟨a',c',e,_,_,hc⟩:=h
 simp only [Value.slice.injEq] at e
 obtain ⟨rfl,_,rfl⟩:=e
 obtain ⟨b,o,rfl,hcell⟩:=hc (by omega)
 exact ⟨b,o,rfl,hcell k _ (List.getElem?_eq_getElem hk)⟩
theorem Sl.shape {w:World} {v:Value} {n:Nat} {xs:List Value} (h:Sl w v n xs):∃ a c,v = .slice a n c ∧ n ≤ c ∧ c ≤ 9223372036854775807:=by
 obtain ⟨a,c,h0,h1,h2,_⟩:=h
 unfold maxLen at h2
 exact ⟨a,c,h0,h1,h2⟩
theorem Strs.ext {w w':World} {v:Value} {ss:List ByteArray} (h:Strs w v ss) (hx:Ext w w'):Strs w' v ss:=Sl.ext h hx
theorem Strs.at_ {w:World} {a:Option Addr} {n c:Nat} {ss:List ByteArray} (h:Strs w (.slice a n c) ss) {k:Nat} (hk:k < ss.length):∃ b o,a = some ⟨b,o,none⟩ ∧ w.cell? ⟨b,o + k,none⟩ = some (.string ss[k]):=by
 obtain ⟨a',c',e,h1⟩:=id h
 simp only [Value.slice.injEq] at e
 obtain ⟨_,rfl,_⟩:=e
 obtain ⟨b,o,rfl,hc⟩:=Sl.at_ h (by simpa using hk:k < (ss.map Value.string).length)
 exact ⟨b,o,rfl,by simpa using hc⟩
theorem RowsV.ext {w w':World} {k:IntKind} {v:Value} {xs:List (Value × List Int)} (h:RowsV w k v xs) (hx:Ext w w'):RowsV w' k v xs:=⟨Sl.ext h.1 hx,fun x hm=>(h.2 x hm).ext hx⟩
theorem RowsV.at_ {w:World} {kd:IntKind} {a:Option Addr} {n c:Nat} {xs:List (Value × List Int)} (h:RowsV w kd (.slice a n c) xs) {k:Nat} (hk:k < xs.length):(∃ b o,a = some ⟨b,o,none⟩ ∧ w.cell? ⟨b,o + k,none⟩ = some xs[k].1) ∧ Ints w kd xs[k].1 xs[k].2:=by
 obtain ⟨a',c',e,h1⟩:=id h.1
 simp only [Value.slice.injEq] at e
 obtain ⟨_,rfl,_⟩:=e
 obtain ⟨b,o,rfl,hc⟩:=Sl.at_ h.1 (by simpa using hk:k < (xs.map Prod.fst).length)
 exact ⟨⟨b,o,rfl,by simpa using hc⟩,h.2 _ (List.getElem_mem hk)⟩
theorem str_beq (x y:ByteArray):(x.toList == y.toList) = decide (x = y):=by
 rw [Bool.eq_iff_iff,beq_iff_eq,ByteArray.toList_eq,ByteArray.toList_eq,decide_eq_true_iff]
 exact ⟨fun h=>ByteArray.ext (Array.toList_inj.mp h),fun h=>by rw [h]⟩
theorem str_yes {x y:ByteArray} (h:x = y):(x.toList == y.toList) = true:=by rw [str_beq];exact decide_eq_true h
theorem str_no {x y:ByteArray} (h:x ≠ y):(x.toList == y.toList) = false:=by rw [str_beq];exact decide_eq_false h
theorem Ints.atD {w:World} {kd:IntKind} {a:Option Addr} {n c:Nat} {l:List Int} (h:Ints w kd (.slice a n c) l) {k:Nat} (hk:k < l.length):∃ b o,a = some ⟨b,o,none⟩ ∧ w.cell? ⟨b,o + k,none⟩ = some (.int kd (l.getD k 0)):=by
 obtain ⟨a',c',e,h1⟩:=id h
 simp only [Value.slice.injEq] at e
 obtain ⟨_,rfl,_⟩:=e
 obtain ⟨b,o,rfl,hc⟩:=Sl.at_ h (by simpa using hk:k < (l.map (Value.int kd)).length)
 exact ⟨b,o,rfl,by simpa [List.getD,hk] using hc⟩
theorem Strs.atD {w:World} {a:Option Addr} {n c:Nat} {l:List ByteArray} (h:Strs w (.slice a n c) l) {k:Nat} (hk:k < l.length):∃ b o,a = some ⟨b,o,none⟩ ∧ w.cell? ⟨b,o + k,none⟩ = some (.string (l.getD k ⟨#[]⟩)):=by
 obtain ⟨b,o,rfl,hc⟩:=h.at_ hk
 exact ⟨b,o,rfl,by simpa [List.getD,hk] using hc⟩
theorem Ints.len {w:World} {kd:IntKind} {a:Option Addr} {n c:Nat} {l:List Int} (h:Ints w kd (.slice a n c) l):l.length = n:=by obtain ⟨_,_,e,_⟩:=h;cases e;rfl
theorem Strs.len {w:World} {a:Option Addr} {n c:Nat} {l:List ByteArray} (h:Strs w (.slice a n c) l):l.length = n:=by obtain ⟨_,_,e,_⟩:=h;cases e;rfl
end

/- Made rows, copied onto. No program in sight. -/
section
open Go.RowKit Go.Sort
theorem run_make_el {P:Program} {t e:TypeId} {z:Value} {size bytes:Nat} (T:ElT P t e z size bytes) (n:Nat) (hb:bytes * n ≤ 281474976710656) (h63:n ≤ 9223372036854775807) (w:World) :
 (Instr.makeSlice t (.int .i64 n) (.int .i64 n)).run P w = .ok (.slice (some ⟨w.heap.size,0,none⟩) n n) (w.alloc (.cells (madeCells z.cells (n * size)) e)):=by
 obtain ⟨i,hi,hz,hsz,hby⟩:=T.info
 subst hsz hby
 have h1:(i.bytes:Int) * (n:Int) ≤ 281474976710656:=by
  have:((i.bytes * n:Nat):Int) ≤ 281474976710656:=by omega
  rwa [Int.natCast_mul] at this
 have hr:=run_make (P:=P) w t e i z T.under hi hz .i64 .i64 (n:Int) (n:Int) (by omega) (by omega) h1 (by omega)
 simpa using hr
def RowAt (w:World) (g:Nat) (t:TypeId) (xs:List Value):Prop:=w.heap[g]? = some (.cells xs.toArray t (0,0))
theorem RowAt.lt {w:World} {g:Nat} {t:TypeId} {xs:List Value} (h:RowAt w g t xs):g < w.heap.size:=(Array.getElem?_eq_some_iff.1 h).1
theorem RowAt.kept {w w':World} {g:Nat} {t:TypeId} {xs:List Value} {row:Option Nat} (h:RowAt w g t xs) (hg:w.grownBy w' row) (hne:row ≠ some g):RowAt w' g t xs:=(hg.block g h.lt (fun e=>hne e.symm)).trans h
theorem RowAt.ext {w w':World} {g:Nat} {t:TypeId} {xs:List Value} (h:RowAt w g t xs) (hx:Ext w w'):RowAt w' g t xs:=(hx.block g h.lt).trans h
theorem RowAt.below {B:Nat} {w w':World} {g:Nat} {t:TypeId} {xs:List Value} (h:RowAt w g t xs) (hx:Below B w w') (hB:g < B):RowAt w' g t xs:=(hx.block g hB).trans h
theorem RowAt.new (w:World) (t:TypeId) (xs:List Value):RowAt (w.alloc (.cells xs.toArray t)) w.heap.size t xs:=World.alloc_heap_new w _
theorem row_at {w:World} {t:TypeId} {xs:List Value} {h:Nat} (hh:w.heap.size = h):RowAt (w.alloc (.cells xs.toArray t)) h t xs:=hh ▸ RowAt.new w t xs
theorem RowAt.cell {w:World} {g:Nat} {t:TypeId} {xs:List Value} (h:RowAt w g t xs) {i:Nat} {v:Value} (hi:xs[i]? = some v):w.cell? ⟨g,i,none⟩ = some v:=by
 simp [World.cell?,show w.heap[g]? = _ from h,hi]
theorem RowAt.frozen {w:World} {g:Nat} {t:TypeId} {xs:List Value} (h:RowAt w g t xs) (i:Nat):w.frozen? ⟨g,i,none⟩ = false:=by simp [World.frozen?,show w.heap[g]? = _ from h]
theorem RowAt.set {w:World} {g:Nat} {t:TypeId} {xs:List Value} (h:RowAt w g t xs) (i:Nat) (v:Value):RowAt (w.setCell ⟨g,i,none⟩ v) g t (xs.set i v):=by
 obtain ⟨hlt,hk⟩:=Array.getElem?_eq_some_iff.1 h
 show (w.heap.modify g _)[g]? = _
 rw [Array.getElem?_eq_getElem (by rw [Array.size_modify];exact hlt),Array.getElem_modify_self,hk]
 simp
theorem RowAt.sl {w:World} {g:Nat} {t:TypeId} {xs:List Value} (h:RowAt w g t xs) (n cap:Nat) (hn:n ≤ cap) (hc:cap ≤ maxLen):Sl w (.slice (some ⟨g,0,none⟩) n cap) n xs :=
 ⟨_,cap,rfl,hn,hc,fun _=>⟨g,0,rfl,fun i u hu=>by rw [Nat.zero_add];exact h.cell hu⟩⟩
theorem RowAt.own {w:World} {g base:Nat} {t:TypeId} {xs:List Value} (h:RowAt w g t xs) (hb:base ≤ g) (hc:xs.length ≤ maxLen):w.ownsRow base t 1 (.slice (some ⟨g,0,none⟩) xs.length xs.length) xs.length xs :=
 ⟨by simp,.inr ⟨g,xs.length,xs.toArray,rfl,hb,h,Nat.le_refl _,hc,by simp,by simp⟩⟩
theorem made_toList (z:Value) (n:Nat) (h:z.cells = #[z]):madeCells z.cells (n * 1) = (List.replicate n z).toArray:=by
 rw [h,Nat.mul_one]
 apply Array.ext_getElem?
 intro i
 unfold madeCells
 by_cases hi:i < n <;> simp [hi,Nat.mod_one,Array.getElem?_replicate,List.getElem?_replicate]
theorem grown_set (w:World) (g i:Nat) (v:Value):w.grownBy (w.setCell ⟨g,i,none⟩ v) (some g):=⟨rfl,rfl,rfl,by simp [World.setCell],fun k _ hk=>Below.heap_setCell _ _ _ k (fun e=>hk (by rw [e]))⟩
theorem run_copy_onto {P:Program} {w:World} (dT sT ty:TypeId) {e:TypeId} {z:Value} {bytes:Nat} (T:ElT P dT e z 1 bytes)
 {n g cap:Nat} {u:Value} {xs:List Value} (hu:Sl w u n xs) (hxs:xs.length = n) (h1:∀ x ∈ xs,x.oneCell' = true)
 {cur:List Value} {t:TypeId} (hg:RowAt w g t cur) (hcur:cur.length = n) :
 ∃ w',(Builtin.copy_ #[dT,sT] ty #[.slice (some ⟨g,0,none⟩) n cap,u]).run P w = .ok (goInt n) w' ∧ RowAt w' g t xs ∧ w.grownBy w' (some g):=by
 obtain ⟨sp,sc,rfl,h2,h3,hc⟩:=hu
 obtain ⟨i,hi,hz,hsz,hby⟩:=T.info
 by_cases hp:0 < xs.length
 ·obtain ⟨b,off,rfl,hcell⟩:=hc hp
  refine ⟨_,by
   have:=run_copy_row (P:=P) w dT sT ty e g 0 n cap ⟨b,off,none⟩ n sc cur.toArray t xs T.under (by rw [hi];simp [hsz]) hg (by simp [hxs]) (fun j v hj=>by rw [addr_add];exact hcell j v hj) (by simp [hxs,hcur]) h1
   rw [hxs] at this;exact this,?_,?_⟩
  ·unfold RowAt
   have hlt:=hg.lt
   have e1:cur.toArray.toList.take 0 ++ xs ++ cur.toArray.toList.drop (0 + n) = xs:=by simp [List.drop_eq_nil_of_le (show cur.length ≤ n by omega)]
   rw [e1]
   unfold World.setRow
   simp only [Array.getElem?_modify,show w.heap[g]? = _ from hg,if_true,Option.map_some]
  ·refine ⟨rfl,rfl,rfl,by simp [World.setRow],fun k _ hk=>?_⟩
   unfold World.setRow
   simp only [Array.getElem?_modify]
   rw [if_neg (fun e=>hk (by rw [e]))]
 ·have hx0:xs = []:=List.eq_nil_of_length_eq_zero (by omega)
  subst hx0
  simp at hxs
  subst hxs
  have hc0:cur = []:=List.eq_nil_of_length_eq_zero hcur
  subst hc0
  exact ⟨w,run_copy_none (P:=P) w dT sT ty e _ _ 0 cap 0 sc T.under (by rw [hi];simp [hsz]) (by simp),hg,⟨rfl,rfl,rfl,Nat.le_refl _,fun _ _ _=>rfl⟩⟩
theorem own_vw {w:World} {B size n:Nat} {e:TypeId} {v:Value} {xs:List Value} (h:w.ownsRow B e size v n xs):∃ a c,v = .slice a n c:=by
 obtain ⟨_,c,rfl,_⟩:=Sl.of_own h
 exact ⟨_,c,rfl⟩
theorem own_kept {w w':World} {base size n:Nat} {e:TypeId} {v:Value} {xs:List Value} {row:Option Nat} (h:w.ownsRow base e size v n xs) (hg:w.grownBy w' row) (hr:∀ r,row = some r → r < base):w'.ownsRow base e size v n xs:=by
 refine ⟨h.1,?_⟩
 rcases h.2 with hn | ⟨g,cap,cur,rfl,hbg,hgg,rest⟩
 ·exact .inl hn
 ·refine .inr ⟨g,cap,cur,rfl,hbg,?_,rest⟩
  exact (hg.block g (Array.getElem?_eq_some_iff.1 hgg).1 (fun e=>by have:=hr g e.symm;omega)).trans hgg
theorem keeps_own {w w':World} {B base size n:Nat} {e:TypeId} {v:Value} {xs:List Value} (h:w.ownsRow base e size v n xs) (hg:w.grownBy w' v.ownBlock):KeepsFrom B w w':=by
 refine keeps_grown B hg (fun r hr=>?_)
 rcases h.2 with ⟨rfl,_⟩ | ⟨g,cap,cur,rfl,_,hgg,_⟩
 ·simp [Value.ownBlock] at hr
 ·simp [Value.ownBlock] at hr
  subst hr
  exact ⟨_,hgg,rfl⟩
/-! Steps, to be laid end to end. -/
theorem Ext.via {a b c:World} (k:Ext b c) (h:Ext a b):Ext a c:=h.trans k
theorem Ext.alloc_of {a w:World} (h:Ext a w) (o:Obj):Ext a (w.alloc o):=h.trans (Ext.alloc w o)
theorem Ext.drewN_of {a w:World} (h:Ext a w) (n:Nat):Ext a (w.drewN n):=h.trans (Ext.drewN w n)
theorem Ext.drew_of {a w:World} (h:Ext a w):Ext a w.drew:=h.trans (Ext.drewN w 1)
theorem Ext.set_of {a w:World} {b o:Nat} (h:Ext a w) (hb:a.heap.size ≤ b) (v:Value):Ext a (w.setCell ⟨b,o,none⟩ v):=Below.setCell (p:=⟨b,o,none⟩) h hb v
theorem RowAt.facts2 {w:World} {g:Nat} {t:TypeId} {u0 u1:Value} (h:RowAt w g t [u0,u1]):w.cell? ⟨g,0,none⟩ = some u0 ∧ w.cell? ⟨g,1,none⟩ = some u1 ∧ w.frozen? ⟨g,0,none⟩ = false ∧ w.frozen? ⟨g,1,none⟩ = false:=⟨h.cell (i:=0) rfl,h.cell (i:=1) rfl,h.frozen 0,h.frozen 1⟩
theorem RowAt.facts1 {w:World} {g:Nat} {t:TypeId} {u0:Value} (h:RowAt w g t [u0]):w.cell? ⟨g,0,none⟩ = some u0 ∧ w.frozen? ⟨g,0,none⟩ = false:=⟨h.cell (i:=0) rfl,h.frozen 0⟩
theorem RowAt.facts3 {w:World} {g:Nat} {t:TypeId} {u0 u1 u2:Value} (h:RowAt w g t [u0,u1,u2]):w.cell? ⟨g,0,none⟩ = some u0 ∧ w.cell? ⟨g,1,none⟩ = some u1 ∧ w.cell? ⟨g,2,none⟩ = some u2 ∧ w.frozen? ⟨g,0,none⟩ = false ∧ w.frozen? ⟨g,1,none⟩ = false ∧ w.frozen? ⟨g,2,none⟩ = false :=
 ⟨h.cell (i:=0) rfl,h.cell (i:=1) rfl,h.cell (i:=2) rfl,h.frozen 0,h.frozen 1,h.frozen 2⟩
end

/- What my walks lean on, in one place. No program in sight. -/
section
end

end Go.Proofs.YtkmbnghghbfkdaaGreat
