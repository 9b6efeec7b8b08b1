/- A region that draws its order: operations that look at no memory, ones that only read (what they read stays when memory is made), ones that only make memory, and ones that write: one walk, in an order of one's own choice, serves every order. No program in sight. -/
import Derived.Test.YtkmbnghghbfkdaaGreatGp02
import Derived.Test.YtkmbnghghbfkdaaGreatGp01
import Derived.Test.YtkmbnghghbfkdaaGreatGp00
import Derived.Laws.BitsAllLaws
set_option linter.unusedSimpArgs false
set_option linter.unusedVariables false
set_option maxHeartbeats 2000000
set_option maxRecDepth 100000
namespace Go.Proofs.YtkmbnghghbfkdaaGreat
open Go.Lib (hid)

section
open Go.RowKit Go.Sort
inductive Gro where
 | pure
 | read
 | grow
 | write
def Gro.writes:Gro → Bool
 | .write=>true
 | _=>false
class Rel (R:World → World → Prop):Prop where
 refl:∀ w,R w w
 trans:∀ {a b c:World},R a b → R b c → R a c
instance extRel:Rel Ext:=⟨Ext.refl,fun h k=>h.trans k⟩
instance grownRel (g:Nat):Rel (fun w w'=>w.grownBy w' (some g)):=⟨fun w=>(grown_ext (Ext.refl w)).but _,fun h k=>World.grownBy.trans h k⟩
section
variable {R:World → World → Prop} {P:Program} {md:Region.Mode} {ops:Array Oper} {Q:Exit → Act → World → Prop}
theorem oper_putY {Y:Act → Prop} {oi oj:Oper} {v:Value} (hap:oi.apart ops oj = true)
 (hsi:∀ cs b,oi.op ≠ .select cs b) (hsj:∀ cs b,oj.op ≠ .select cs b)
 (hQ:∀ c a w,Q (.panic c) (a.put oi.dst v) w → Q (.panic c) a w) {K:Act → World → Prop} {a:Act} {w:World}
 (keep:∀ ds u,Y ({ a with defers:=ds }.put oj.dst u)) (h:oj.wp P (a.put oi.dst v) w K Q) :
 oj.wp P a w (fun a' w'=>Y a' ∧ K (a'.put oi.dst v) w') Q:=by
 obtain ⟨h1,h2,h3⟩:=Oper.apart_spec hap
 unfold Oper.wp at *
 rw [execOp_put oj hsj a oi.dst v h1] at h
 generalize (execOp a.eval oj).run P w = r at *
 cases r with
 | ok n w' =>
  cases n <;> simp only [Oper.upon] at h ⊢
  case value u=>exact ⟨keep a.defers u,by rw [← Act.put_comm a v u h2];exact h⟩
  case skip=>exact ⟨keep a.defers _,by rw [← Act.put_comm a v undef h2];exact h⟩
  case defer d =>
   refine ⟨keep _ _,?_⟩
   rw [← Act.put_comm _ v undef h2,← Act.put_defers]
   exact h
  case enter f args =>
   refine Calls.mono h fun e w'' he=>?_
   cases e with
   | returned u=>exact ⟨keep a.defers u,by rw [← Act.put_comm a v u h2];exact he⟩
   | panicked c=>exact hQ _ _ _ he
   | outgrown=>exact he
  case row row args=>exact Rows.mono h fun u w'' he=>⟨keep a.defers u,by rw [← Act.put_comm a v u h2];exact he⟩
 | halt x w' =>
  cases x <;> simp only [Oper.upon] at h ⊢
  case panic u=>exact hQ _ _ _ h
def opG (P:Program) (ops:Array Oper) (Q:Exit → Act → World → Prop) (o:Oper) (K:Act → World → Prop) (a:Act) (w:World):Prop :=
 if Region.wanted o (yielded ops a.tmps) = true then o.wp P a w K Q else K (a.put o.dst undef) w
theorem opG_mono {o:Oper} {a:Act} {w:World} {K K':Act → World → Prop} (h:∀ a w,K a w → K' a w) (hh:opG P ops Q o K a w):opG P ops Q o K' a w:=by
 unfold opG at *
 split
 ·rename_i hw;rw [if_pos hw] at hh;exact Oper.wp_mono h hh
 ·rename_i hw;rw [if_neg hw] at hh;exact h _ _ hh
theorem opG_putY {Y:Act → Prop} {oi oj:Oper} {v:Value} (hap:oi.apart ops oj = true)
 (hsi:∀ cs b,oi.op ≠ .select cs b) (hsj:∀ cs b,oj.op ≠ .select cs b)
 (hQ:∀ c a w,Q (.panic c) (a.put oi.dst v) w → Q (.panic c) a w) {K:Act → World → Prop} {a:Act} {w:World}
 (keep:∀ ds u,Y ({ a with defers:=ds }.put oj.dst u)) (h:opG P ops Q oj K (a.put oi.dst v) w) :
 opG P ops Q oj (fun a' w'=>Y a' ∧ K (a'.put oi.dst v) w') a w:=by
 obtain ⟨h1,h2,h3⟩:=Oper.apart_spec hap
 unfold opG at *
 rw [wanted_put oj a oi.dst v h1] at h
 split
 ·rename_i hw;rw [if_pos hw] at h;exact oper_putY hap hsi hsj hQ keep h
 ·rename_i hw;rw [if_neg hw] at h;exact ⟨keep a.defers _,by rw [← Act.put_comm a v undef h2];exact h⟩
def groY (R:World → World → Prop) (P:Program) (ops:Array Oper) (k:Gro) (o:Oper) (v:Value) (a:Act) (w:World):Prop:=match k with
 | .pure=>Yields P ops o v a
 | .read=>∀ w',R w w' → YieldsIn P ops (fun x=>x = w') o v a
 | _=>False
theorem groY_same {k:Gro} {o:Oper} {v:Value} {a a':Act} {w:World} (hy:groY R P ops k o v a w) (he:execOp a'.eval o = execOp a.eval o)
 (hw:Region.wanted o (yielded ops a'.tmps) = Region.wanted o (yielded ops a.tmps)):groY R P ops k o v a' w:=by
 cases k with
 | pure=>exact Yields.of_same hy he hw
 | read=>exact fun w' hx=>YieldsIn.of_same (hy w' hx) he hw
 | grow=>exact hy
 | write=>exact hy
theorem groY_ext [hR:Rel R] {k:Gro} {o:Oper} {v:Value} {a:Act} {w w':World} (hy:groY R P ops k o v a w) (hx:R w w'):groY R P ops k o v a w':=by
 cases k with
 | pure=>exact hy
 | read=>exact fun w'' hx'=>hy w'' (hR.trans hx hx')
 | grow=>exact hy
 | write=>exact hy
theorem groY_op [hR:Rel R] {k:Gro} {o:Oper} {v:Value} {a:Act} {w:World} {K:Act → World → Prop} (hy:groY R P ops k o v a w) (h:K (a.put o.dst v) w):opG P ops Q o K a w:=by
 unfold opG
 cases k with
 | pure =>
  rcases hy with ⟨hw,hv⟩ | ⟨hw,rfl⟩
  ·rw [if_pos hw];simp only [Oper.wp,hv w,Oper.upon];exact h
  ·rw [if_neg (by rw [hw];decide)];exact h
 | read =>
  rcases hy w (hR.refl w) with ⟨hw,hv⟩ | ⟨hw,rfl⟩
  ·rw [if_pos hw];exact Oper.wp_of_quiet (C:=fun x=>x = w) (K:=fun a'=>K a' w) rfl (fun a' w' hw' h'=>by subst hw';exact h') ⟨v,hv,h⟩
  ·rw [if_neg (by rw [hw];decide)];exact h
 | grow=>exact hy.elim
 | write=>exact hy.elim
def groU (R:World → World → Prop) (P:Program) (md:Region.Mode) (ops:Array Oper) (Q:Exit → Act → World → Prop) (ks:Nat → Gro):Nat → Array Bool → Act → World → Prop
 | 0,listed,a,w=>Region.ready md ops listed = [] ∧ Q .normal a w
 | f + 1,listed,a,w=>(Region.ready md ops listed = [] → Q .normal a w) ∧ ∀ i ∈ Region.ready md ops listed,∃ o,ops[i]? = some o ∧
  ((ks i = .write ∧ opG P ops Q o (groU R P md ops Q ks f (listed.setIfInBounds i true)) a w) ∨
   (ks i = .grow ∧ opG P ops Q o (fun a' w'=>R w w' ∧ groU R P md ops Q ks f (listed.setIfInBounds i true) a' w') a w) ∨
  ∃ v,groY R P ops (ks i) o v a w ∧ groU R P md ops Q ks f (listed.setIfInBounds i true) (a.put o.dst v) w)
theorem wpOp_of_opG {i:Nat} {o:Oper} {K:Act → World → Prop} {a:Act} {w:World} (ho:ops[i]? = some o) (h:opG P ops Q o K a w):wpOp P ops Q i K a w:=by
 unfold wpOp
 simp only [ho]
 unfold opG at h
 split
 ·rename_i hw;rw [if_pos hw] at h;exact .inl h
 ·rename_i hw;rw [if_neg hw] at h;exact h
theorem opG_of_groU [hR:Rel R] {ks:Nat → Gro} {f:Nat} {listed:Array Bool} {a:Act} {w:World} {K:Act → World → Prop} {i:Nat} (hK:∀ a w,groU R P md ops Q ks f (listed.setIfInBounds i true) a w → K a w)
 (h:∃ o,ops[i]? = some o ∧
  ((ks i = .write ∧ opG P ops Q o (groU R P md ops Q ks f (listed.setIfInBounds i true)) a w) ∨
   (ks i = .grow ∧ opG P ops Q o (fun a' w'=>R w w' ∧ groU R P md ops Q ks f (listed.setIfInBounds i true) a' w') a w) ∨
  ∃ v,groY R P ops (ks i) o v a w ∧ groU R P md ops Q ks f (listed.setIfInBounds i true) (a.put o.dst v) w)):∃ o,ops[i]? = some o ∧ opG P ops Q o K a w:=by
 obtain ⟨o,ho,⟨_,h⟩ | ⟨_,h⟩ | ⟨v,hy,h⟩⟩:=h
 ·exact ⟨o,ho,opG_mono hK h⟩
 ·exact ⟨o,ho,opG_mono (fun a w h=>hK a w h.2) h⟩
 ·exact ⟨o,ho,groY_op hy (hK _ _ h)⟩
theorem wpAny_of_groU [hR:Rel R] {ks:Nat → Gro}:∀ (f:Nat) (listed:Array Bool) (a:Act) (w:World),groU R P md ops Q ks f listed a w → wpAny P md ops Q f listed a w
 | 0,_,_,_,h=>h
 | f + 1,listed,a,w,h=>⟨h.1,fun i hi=>by
  obtain ⟨o,ho,h1⟩:=opG_of_groU (K:=wpAny P md ops Q f (listed.setIfInBounds i true)) (fun a w h=>wpAny_of_groU f _ a w h) (h.2 i hi)
  exact wpOp_of_opG ho h1⟩
theorem wpAnyIn_of_groU [hR:Rel R] {ks:Nat → Gro} (L:Nat) (hnd:noDefer ops.toList = true):∀ (f:Nat) (listed:Array Bool) (a:Act) (w:World),groU R P md ops Q ks f listed a w → wpAnyIn (Fence.wide.inRound L) 0 P md ops Q f listed a w
 | 0,_,_,_,h=>h
 | f + 1,listed,a,w,h=>⟨h.1,fun i hi=>by
  obtain ⟨o,ho,h1⟩:=opG_of_groU (K:=wpAnyIn (Fence.wide.inRound L) 0 P md ops Q f (listed.setIfInBounds i true)) (fun a w h=>wpAnyIn_of_groU L hnd f _ a w h) (h.2 i hi)
  have hm:o ∈ ops.toList:=List.mem_of_getElem? (by rw [Array.getElem?_toList];exact ho)
  unfold wpOpIn
  simp only [ho]
  unfold opG at h1
  split
  ·rename_i hw;rw [if_pos hw] at h1;exact oper_round L (noDefer_at hnd hm) h1
  ·rename_i hw;rw [if_neg hw] at h1;exact ⟨fun f _=>trivial,h1⟩⟩
def Region.chain (md:Region.Mode) (ops:Array Oper):Nat → Array Bool → Nat → Nat → Bool
 | 0,_,j,i=>Region.waitsFor md ops j i
 | f + 1,listed,j,i=>Region.waitsFor md ops j i || (List.range ops.size).any (fun k=>!listed.getD k true && (Region.waitsFor md ops j k && Region.chain md ops f listed k i))
theorem waits_not_ready {listed:Array Bool} {j k:Nat} (hk:listed.getD k true = false) (h:Region.waitsFor md ops j k = true):j ∉ Region.ready md ops listed:=fun hin=>by
 obtain ⟨_,oj',hoj',hall'⟩:=mem_ready.1 hin
 obtain ⟨oj,hoj,e,hee,hb,hon⟩:=Region.waitsFor_spec h
 obtain rfl:oj = oj':=Option.some.inj (hoj.symm.trans hoj')
 have h1:=hall' e hee hb
 rw [hon,getD_both hk] at h1
 cases h1
theorem chain_not_ready {listed:Array Bool} {i:Nat} (hi:listed.getD i true = false):∀ (f:Nat) {j:Nat},Region.chain md ops f listed j i = true → j ∉ Region.ready md ops listed
 | 0,_,h=>waits_not_ready hi h
 | f + 1,j,h=>by
  simp only [Region.chain,Bool.or_eq_true,List.any_eq_true,List.mem_range,Bool.and_eq_true,Bool.not_eq_true'] at h
  rcases h with h | ⟨k,_,h1,h2,_⟩
  ·exact waits_not_ready hi h
  ·exact waits_not_ready h1 h2
theorem chain_step {listed:Array Bool} {i x:Nat} (hi:listed.getD i true = false) (hx:x ∈ Region.ready md ops listed):∀ (f:Nat) {j:Nat},Region.chain md ops f listed j i = true → Region.chain md ops f (listed.setIfInBounds x true) j i = true
 | 0,_,h=>h
 | f + 1,j,h=>by
  simp only [Region.chain,Bool.or_eq_true,List.any_eq_true,List.mem_range,Bool.and_eq_true,Bool.not_eq_true'] at h ⊢
  rcases h with h | ⟨k,h0,h1,h2,h3⟩
  ·exact .inl h
  ·refine .inr ⟨k,h0,?_,h2,chain_step hi hx f h3⟩
   have hne:x ≠ k:=fun e=>by subst e;exact chain_not_ready hi f h3 hx
   rw [getD_set_ne true hne];exact h1
theorem groU_first [hR:Rel R] {ks:Nat → Gro} {i:Nat} {oi:Oper} {v:Value} (hi:ops[i]? = some oi) (hsel:∀ (j:Nat) (o:Oper) cs b,ops[j]? = some o → o.op ≠ .select cs b)
 (hQ:∀ c a w,Q (.panic c) (a.put oi.dst v) w → Q (.panic c) a w) :
 ∀ (f:Nat) (listed:Array Bool) (a:Act) (w:World),
  (∀ j oj,ops[j]? = some oj → j ≠ i → listed.getD j true = false → (∀ e ∈ oj.after,Region.binds md e = true → e.on ≠ i) → oi.apart ops oj = true) →
  (ks i = .read → ∀ j,j < ops.size → listed.getD j true = false → ks j = .write → Region.chain md ops 8 listed j i = true) →
  i ∈ Region.ready md ops listed → groY R P ops (ks i) oi v a w →
  groU R P md ops Q ks f (listed.setIfInBounds i true) (a.put oi.dst v) w → groU R P md ops Q ks (f + 1) listed a w:=by
 intro f
 induction f with
 | zero =>
  intro listed a w _ _ hr hy H
  refine ⟨fun h=>(by rw [h] at hr;cases hr),fun j hj=>?_⟩
  by_cases hji:j = i
  ·subst hji;exact ⟨oi,hi,.inr (.inr ⟨v,hy,H⟩)⟩
  ·have:=ready_mono hj hji
   rw [H.1] at this
   cases this
 | succ f ih =>
  intro listed a w hfree hwt hr hy H
  refine ⟨fun h=>(by rw [h] at hr;cases hr),fun j hj=>?_⟩
  by_cases hji:j = i
  ·subst hji;exact ⟨oi,hi,.inr (.inr ⟨v,hy,H⟩)⟩
  ·obtain ⟨hjun,oj,hoj,hall⟩:=mem_ready.1 hj
   have hnot:∀ e ∈ oj.after,Region.binds md e = true → e.on ≠ i:=fun e he hb heq=>by
    have h1:=hall e he hb
    have h0:=(mem_ready.1 hr).1
    rw [heq,getD_both h0] at h1
    cases h1
   have hap:=hfree j oj hoj hji hjun hnot
   obtain ⟨q1,q2,q3⟩:=Oper.apart_spec hap
   have hsi:=fun cs b=>hsel i oi cs b hi
   have hsj:=fun cs b=>hsel j oj cs b hoj
   have hfree':∀ k ok,ops[k]? = some ok → k ≠ i → (listed.setIfInBounds j true).getD k true = false →
    (∀ e ∈ ok.after,Region.binds md e = true → e.on ≠ i) → oi.apart ops ok = true:=fun k ok hk hki hun hno=>by
    refine hfree k ok hk hki ?_ hno
    by_cases hjk:j = k
    ·subst hjk;exact hjun
    ·rw [getD_set_ne true hjk] at hun;exact hun
   have hun':∀ k,(listed.setIfInBounds j true).getD k true = false → listed.getD k true = false:=fun k hun=>by
    by_cases hjk:j = k
    ·subst hjk;exact hjun
    ·rw [getD_set_ne true hjk] at hun;exact hun
   have hwt':ks i = .read → ∀ k,k < ops.size → (listed.setIfInBounds j true).getD k true = false → ks k = .write → Region.chain md ops 8 (listed.setIfInBounds j true) k i = true:=fun he k hlt hun hk=>chain_step (mem_ready.1 hr).1 hj 8 (hwt he k hlt (hun' k hun) hk)
   have hir:i ∈ Region.ready md ops (listed.setIfInBounds j true):=ready_mono hr (Ne.symm hji)
   have keep:∀ ds u,groY R P ops (ks i) oi v ({ a with defers:=ds }.put oj.dst u) w:=fun ds u =>
    groY_same (groY_same hy (a':={ a with defers:=ds }) rfl rfl) (execOp_put oi hsi _ oj.dst u q3) (wanted_put oi _ oj.dst u q3)
   obtain ⟨o,ho,hrest⟩:=H.2 j (ready_mono hj hji)
   obtain rfl:o = oj:=Option.some.inj (ho.symm.trans hoj)
   refine ⟨o,ho,?_⟩
   rcases hrest with ⟨hk,hw⟩ | ⟨hk,hw⟩ | ⟨u,hyj,hU⟩
   ·cases hki:ks i with
    | write=>rw [hki] at hy;exact hy.elim
    | grow=>rw [hki] at hy;exact hy.elim
    | read=>exact absurd hj (chain_not_ready (mem_ready.1 hr).1 8 (hwt hki j (Array.getElem?_eq_some_iff.1 hoj).1 hjun hk))
    | pure =>
     refine .inl ⟨hk,?_⟩
     refine opG_mono (fun a' w' h3=>ih (listed.setIfInBounds j true) a' w' hfree' hwt' hir (by have:=h3.1;rw [hki] at this ⊢;exact this) ?_) (opG_putY (Y:=fun a'=>groY R P ops (ks i) oi v a' w) hap hsi hsj hQ keep hw)
     rw [Array.setIfInBounds_comm _ _ hji]
     exact h3.2
   ·refine .inr (.inl ⟨hk,?_⟩)
    refine opG_mono (fun a' w' h3=>⟨h3.2.1,ih (listed.setIfInBounds j true) a' w' hfree' hwt' hir (groY_ext h3.1 h3.2.1) ?_⟩) (opG_putY (Y:=fun a'=>groY R P ops (ks i) oi v a' w) hap hsi hsj hQ keep hw)
    rw [Array.setIfInBounds_comm _ _ hji]
    exact h3.2.2
   ·refine .inr (.inr ⟨u,groY_same hyj (execOp_put o hsj a oi.dst v q1).symm (wanted_put o a oi.dst v q1).symm,?_⟩)
    refine ih (listed.setIfInBounds j true) (a.put o.dst u) w hfree' hwt' hir (keep a.defers u) ?_
    rw [Array.setIfInBounds_comm _ _ hji,Act.put_comm a v u q2] at *
    exact hU
def groText (md:Region.Mode) (ops:Array Oper) (ks:Nat → Gro):List Nat → Array Bool → Bool
 | [],listed=>(Region.ready md ops listed).isEmpty
 | i :: r,listed=>(Region.ready md ops listed).contains i && ((match ks i with
  | .write=>(Region.ready md ops listed).all (fun j=>j == i)
  | .grow=>(Region.ready md ops listed).all (fun j=>j == i)
  | .pure=>Region.free md ops listed i
  | .read=>Region.free md ops listed i && (List.range ops.size).all (fun j=>listed.getD j true || !(ks j).writes || Region.chain md ops 8 listed j i)) && groText md ops ks r (listed.setIfInBounds i true))
def Stays (R:World → World → Prop) (P:Program) (o:Oper) (a:Act) (w:World) (v:Value):Prop:=∀ w',R w w' → o.quietAt P a (fun x=>x = w') w' v
def groL (R:World → World → Prop) (P:Program) (ops:Array Oper) (Q:Exit → Act → World → Prop) (ks:Nat → Gro):List Nat → Act → World → Prop
 | [],a,w=>Q .normal a w
 | i :: r,a,w=>match ops[i]? with
  | none=>False
  | some o=>if Region.wanted o (yielded ops a.tmps) = true then (match ks i with
   | .write=>o.wp P a w (groL R P ops Q ks r) Q
   | .grow=>o.wp P a w (fun a' w'=>R w w' ∧ groL R P ops Q ks r a' w') Q
   | .pure=>∃ v,(∀ w',(execOp a.eval o).run P w' = .ok (.value v) w') ∧ groL R P ops Q ks r (a.put o.dst v) w
   | .read=>∃ v,o.quietAt P a (fun x=>x = w) w v ∧ Stays R P o a w v ∧ groL R P ops Q ks r (a.put o.dst v) w)
   else groL R P ops Q ks r (a.put o.dst undef) w
theorem groU_of_groL [hR:Rel R] {ks:Nat → Gro} (hsel:Region.noSelect ops = true) (hQ:∀ c a w d v,Q (.panic c) (a.put (some d) v) w → Q (.panic c) a w) :
 ∀ (l:List Nat) (listed:Array Bool) (a:Act) (w:World),groText md ops ks l listed = true → groL R P ops Q ks l a w → groU R P md ops Q ks l.length listed a w
 | [],listed,a,w,hB,h=>⟨by simpa [groText] using hB,h⟩
 | i :: r,listed,a,w,hB,h=>by
  have hQ':∀ (o:Oper) v c a w,Q (.panic c) (a.put o.dst v) w → Q (.panic c) a w:=fun o v c a w=>by
   cases o.dst with
   | none=>exact id
   | some d=>exact hQ c a w d v
  simp only [groText,Bool.and_eq_true] at hB
  obtain ⟨hr,hk,hB'⟩:=hB
  have hr':i ∈ Region.ready md ops listed:=by simpa using hr
  obtain ⟨hun,o,ho,_⟩:=mem_ready.1 hr'
  have ih:=groU_of_groL (ks:=ks) hsel hQ r (listed.setIfInBounds i true)
  simp only [groL,ho] at h
  have go:∀ v,groY R P ops (ks i) o v a w → groL R P ops Q ks r (a.put o.dst v) w → groU R P md ops Q ks (r.length + 1) listed a w:=fun v hy hl=>by
   have hf:Region.free md ops listed i = true:=by
    cases hki:ks i with
    | write=>rw [hki] at hy;exact hy.elim
    | grow=>rw [hki] at hy;exact hy.elim
    | pure=>rw [hki] at hk;exact hk
    | read=>rw [hki] at hk;simp only [Bool.and_eq_true] at hk;exact hk.1
   have hread:ks i = .read → ∀ j,j < ops.size → listed.getD j true = false → ks j = .write → Region.chain md ops 8 listed j i = true:=fun he j hlt hun hkw=>by
    rw [he] at hk
    simp only [Bool.and_eq_true,List.all_eq_true,List.mem_range,Bool.or_eq_true,Bool.not_eq_true'] at hk
    rcases hk.2 j hlt with (h1 | h1) | h1
    ·rw [hun] at h1;cases h1
    ·rw [hkw] at h1;cases h1
    ·exact h1
   exact groU_first ho (Region.noSelect_spec hsel) (fun c a w=>hQ' o v c a w) r.length listed a w (Region.free_spec ho hf) hread hr' hy (ih _ _ hB' hl)
  have only:(Region.ready md ops listed).all (fun j=>j == i) = true → ∀ j ∈ Region.ready md ops listed,j = i:=fun hk j hj=>by
   have:=List.all_eq_true.1 hk j hj
   simpa using this
  show groU R P md ops Q ks (r.length + 1) listed a w
  cases hki:ks i with
  | write =>
   rw [hki] at hk h
   refine ⟨fun h0=>(by rw [h0] at hr';cases hr'),fun j hj=>?_⟩
   obtain rfl:=only hk j hj
   refine ⟨o,ho,.inl ⟨hki,?_⟩⟩
   unfold opG
   split
   ·rename_i hw
    rw [if_pos hw] at h
    exact Oper.wp_mono (fun a' w' h'=>ih a' w' hB' h') h
   ·rename_i hw
    rw [if_neg hw] at h
    exact ih _ _ hB' h
  | grow =>
   rw [hki] at hk h
   refine ⟨fun h0=>(by rw [h0] at hr';cases hr'),fun j hj=>?_⟩
   obtain rfl:=only hk j hj
   refine ⟨o,ho,.inr (.inl ⟨hki,?_⟩)⟩
   unfold opG
   split
   ·rename_i hw
    rw [if_pos hw] at h
    exact Oper.wp_mono (fun a' w' h'=>⟨h'.1,ih a' w' hB' h'.2⟩) h
   ·rename_i hw
    rw [if_neg hw] at h
    exact ⟨hR.refl _,ih _ _ hB' h⟩
  | pure =>
   rw [hki] at h
   by_cases hw:Region.wanted o (yielded ops a.tmps) = true
   ·rw [if_pos hw] at h
    obtain ⟨v,hy,hl⟩:=h
    exact go v (by rw [hki];exact .inl ⟨hw,hy⟩) hl
   ·rw [if_neg hw] at h
    exact go undef (by rw [hki];exact .inr ⟨by simpa using hw,rfl⟩) h
  | read =>
   rw [hki] at h
   by_cases hw:Region.wanted o (yielded ops a.tmps) = true
   ·rw [if_pos hw] at h
    obtain ⟨v,hy,hst,hl⟩:=h
    exact go v (by rw [hki];exact fun w' hx=>.inl ⟨hw,fun w'' hw'=>by subst hw';exact hst _ hx⟩) hl
   ·rw [if_neg hw] at h
    exact go undef (by rw [hki];exact fun w' hx=>.inr ⟨by simpa using hw,rfl⟩) h
theorem wp_region_gro0 [hR:Rel R] {id:Nat} {a:Act} {w:World} {l:List Oper} (ks:Nat → Gro) (ord:List Nat) (hm:P.follows .mixedOrders = true) (hsel:Region.noSelect l.toArray = true) (hn:ord.length = l.length)
 (hB:groText .any l.toArray ks ord (Array.replicate l.toArray.size false) = true) (hQ:∀ c a w d v,Q (.panic c) (a.put (some d) v) w → Q (.panic c) a w)
 (h:groL R P l.toArray Q ks ord a w.drew):(Code.region id l.toArray true).wp P Q a w:=by
 refine wp_region_any hm ?_
 have h1:=wpAny_of_groU _ _ _ _ (groU_of_groL (md:=.any) hsel hQ ord _ a _ hB h)
 rw [hn] at h1
 simpa using h1
theorem wpIn_region_gro0 [hR:Rel R] {L id:Nat} {a:Act} {w:World} {l:List Oper} (ks:Nat → Gro) (ord:List Nat) (hm:P.follows .mixedOrders = true) (hnd:noDefer l = true) (hsel:Region.noSelect l.toArray = true) (hn:ord.length = l.length)
 (hB:groText .any l.toArray ks ord (Array.replicate l.toArray.size false) = true) (hQ:∀ c a w d v,Q (.panic c) (a.put (some d) v) w → Q (.panic c) a w)
 (h:groL R P l.toArray Q ks ord a w.drew):(Code.region id l.toArray true).wpIn (Fence.wide.inRound L) 0 P Q a w:=by
 refine wpIn_region_any hm ?_
 have h1:=wpAnyIn_of_groU L (by simpa using hnd) _ _ _ _ (groU_of_groL (md:=.any) hsel hQ ord _ a _ hB h)
 rw [hn] at h1
 simpa using h1
theorem groL0_pure {ks:Nat → Gro} {i:Nat} {r:List Nat} {o:Oper} {a:Act} {w:World} (ho:ops[i]? = some o) (hk:ks i = .pure)
 (h:∀ K:Act → Prop,(∀ a,groL R P ops Q ks r a w → K a) → if Region.wanted o (yielded ops a.tmps) = true then ∃ v,(∀ w',(execOp a.eval o).run P w' = .ok (.value v) w') ∧ K (a.put o.dst v) else K (a.put o.dst undef)):groL R P ops Q ks (i :: r) a w:=by
 simp only [groL,ho,hk]
 exact h _ (fun _ h=>h)
theorem groL0_read {ks:Nat → Gro} {i:Nat} {r:List Nat} {o:Oper} {a:Act} {w:World} (ho:ops[i]? = some o) (hk:ks i = .read)
 (h:∀ (K:Act → Prop) (S:Value → Prop),(∀ v,Stays R P o a w v → S v) → (∀ a,groL R P ops Q ks r a w → K a) → if Region.wanted o (yielded ops a.tmps) = true then ∃ v,o.quietAt P a (fun x=>x = w) w v ∧ S v ∧ K (a.put o.dst v) else K (a.put o.dst undef)):groL R P ops Q ks (i :: r) a w:=by
 simp only [groL,ho,hk]
 exact h _ (Stays R P o a w) (fun _ h=>h) (fun _ h=>h)
theorem groL0_grow {ks:Nat → Gro} {i:Nat} {r:List Nat} {o:Oper} {a:Act} {w:World} (ho:ops[i]? = some o) (hk:ks i = .grow)
 (h:∀ K:Act → World → Prop,(∀ a w',R w w' ∧ groL R P ops Q ks r a w' → K a w') → if Region.wanted o (yielded ops a.tmps) = true then o.wp P a w K Q else K (a.put o.dst undef) w):groL R P ops Q ks (i :: r) a w:=by
 simp only [groL,ho,hk]
 have h1:=h (fun a' w'=>R w w' ∧ groL R P ops Q ks r a' w') (fun _ _ h=>h)
 split
 ·rename_i hw;rw [if_pos hw] at h1;exact h1
 ·rename_i hw;rw [if_neg hw] at h1;exact h1.2
theorem groL0_write {ks:Nat → Gro} {i:Nat} {r:List Nat} {o:Oper} {a:Act} {w:World} (ho:ops[i]? = some o) (hk:ks i = .write)
 (h:∀ K:Act → World → Prop,(∀ a w,groL R P ops Q ks r a w → K a w) → if Region.wanted o (yielded ops a.tmps) = true then o.wp P a w K Q else K (a.put o.dst undef) w):groL R P ops Q ks (i :: r) a w:=by
 simp only [groL,ho,hk]
 exact h _ (fun _ _ h=>h)
structure GroW (P:Program) (ops:Array Oper) (Q:Exit → Act → World → Prop) (ks:Nat → Gro) (l:List Nat) (a:Act) (w:World):Prop where
 out:groL Ext P ops Q ks l a w
theorem groL_nil {ks:Nat → Gro} {a:Act} {w:World} (h:Q .normal a w):GroW P ops Q ks [] a w:=⟨h⟩
theorem groL_pure {ks:Nat → Gro} {i:Nat} {r:List Nat} {o:Oper} {a:Act} {w:World} (ho:ops[i]? = some o) (hk:ks i = .pure)
 (h:∀ K:Act → Prop,(∀ a,GroW P ops Q ks r a w → K a) → if Region.wanted o (yielded ops a.tmps) = true then ∃ v,(∀ w',(execOp a.eval o).run P w' = .ok (.value v) w') ∧ K (a.put o.dst v) else K (a.put o.dst undef)):GroW P ops Q ks (i :: r) a w :=
 ⟨groL0_pure ho hk fun K hK=>h K fun a h=>hK a h.out⟩
theorem groL_read {ks:Nat → Gro} {i:Nat} {r:List Nat} {o:Oper} {a:Act} {w:World} (ho:ops[i]? = some o) (hk:ks i = .read)
 (h:∀ (K:Act → Prop) (S:Value → Prop),(∀ v,Stays Ext P o a w v → S v) → (∀ a,GroW P ops Q ks r a w → K a) → if Region.wanted o (yielded ops a.tmps) = true then ∃ v,o.quietAt P a (fun x=>x = w) w v ∧ S v ∧ K (a.put o.dst v) else K (a.put o.dst undef)):GroW P ops Q ks (i :: r) a w :=
 ⟨groL0_read ho hk fun K S hS hK=>h K S hS fun a h=>hK a h.out⟩
theorem groL_grow {ks:Nat → Gro} {i:Nat} {r:List Nat} {o:Oper} {a:Act} {w:World} (ho:ops[i]? = some o) (hk:ks i = .grow)
 (h:∀ K:Act → World → Prop,(∀ a w',Ext w w' ∧ GroW P ops Q ks r a w' → K a w') → if Region.wanted o (yielded ops a.tmps) = true then o.wp P a w K Q else K (a.put o.dst undef) w):GroW P ops Q ks (i :: r) a w :=
 ⟨groL0_grow ho hk fun K hK=>h K fun a w' h=>hK a w' ⟨h.1,h.2.out⟩⟩
theorem groL_write {ks:Nat → Gro} {i:Nat} {r:List Nat} {o:Oper} {a:Act} {w:World} (ho:ops[i]? = some o) (hk:ks i = .write)
 (h:∀ K:Act → World → Prop,(∀ a w,GroW P ops Q ks r a w → K a w) → if Region.wanted o (yielded ops a.tmps) = true then o.wp P a w K Q else K (a.put o.dst undef) w):GroW P ops Q ks (i :: r) a w :=
 ⟨groL0_write ho hk fun K hK=>h K fun a w h=>hK a w h.out⟩
theorem wp_region_gro {id:Nat} {a:Act} {w:World} {l:List Oper} (ks:Nat → Gro) (ord:List Nat) (hm:P.follows .mixedOrders = true) (hsel:Region.noSelect l.toArray = true) (hn:ord.length = l.length)
 (hB:groText .any l.toArray ks ord (Array.replicate l.toArray.size false) = true) (hQ:∀ c a w d v,Q (.panic c) (a.put (some d) v) w → Q (.panic c) a w)
 (h:GroW P l.toArray Q ks ord a w.drew):(Code.region id l.toArray true).wp P Q a w:=wp_region_gro0 ks ord hm hsel hn hB hQ h.out
theorem wpIn_region_gro {L id:Nat} {a:Act} {w:World} {l:List Oper} (ks:Nat → Gro) (ord:List Nat) (hm:P.follows .mixedOrders = true) (hnd:noDefer l = true) (hsel:Region.noSelect l.toArray = true) (hn:ord.length = l.length)
 (hB:groText .any l.toArray ks ord (Array.replicate l.toArray.size false) = true) (hQ:∀ c a w d v,Q (.panic c) (a.put (some d) v) w → Q (.panic c) a w)
 (h:GroW P l.toArray Q ks ord a w.drew):(Code.region id l.toArray true).wpIn (Fence.wide.inRound L) 0 P Q a w:=wpIn_region_gro0 ks ord hm hnd hsel hn hB hQ h.out
end
theorem ext_some {w w':World} (hx:Ext w w') (p:Addr) (h:(w.cell? p).isSome = true):w'.cell? p = w.cell? p:=by
 obtain ⟨v,hv⟩:=Option.isSome_iff_exists.1 h
 exact Below.cell hx (World.block_lt_of_cell? w p hv)
end

/- Tokens of a text: plain, no program in sight. -/
section
def bts (s:ByteArray):List UInt8:=s.data.toList
def txt (l:List UInt8):ByteArray:=⟨l.toArray⟩
theorem bts_txt (l:List UInt8):bts (txt l) = l:=by simp [bts,txt]
theorem txt_bts (s:ByteArray):txt (bts s) = s:=by cases s;simp [bts,txt]
theorem bts_len (s:ByteArray):(bts s).length = s.size:=by simp [bts]
theorem txt_size (l:List UInt8):(txt l).size = l.length:=by simp [txt,ByteArray.size]
theorem bts_inj {s t:ByteArray} (h:bts s = bts t):s = t:=by rw [← txt_bts s,h,txt_bts]
theorem bts_extract (s:ByteArray) (a b:Nat):bts (s.extract a b) = ((bts s).drop a).take (b - a):=by
 unfold bts
 rw [ByteArray.data_extract,Array.toList_extract,List.extract_eq_take_drop]
theorem bts_append (s t:ByteArray):bts (s ++ t) = bts s ++ bts t:=by
 unfold bts
 rw [ByteArray.data_append,Array.toList_append]
theorem extract_txt (s:ByteArray) (a b:Nat):s.extract a b = txt (((bts s).drop a).take (b - a)):=by rw [← bts_extract,txt_bts]
theorem bts_drop (s:ByteArray) (k:Nat) (h:k < s.size):(bts s).drop k = s[k] :: (bts s).drop (k + 1):=by
 rw [List.drop_eq_getElem_cons (by rw [bts_len];exact h)];rfl
def letterC (c:Int):Bool:=decide (97 ≤ c ∧ c ≤ 122 ∨ 48 ≤ c ∧ c ≤ 57 ∨ c = 95)
def quotedC (c:Int):Bool:=decide (32 ≤ c ∧ c ≤ 126 ∧ c ≠ 34 ∧ c ≠ 92)
def blankC (c:Int):Bool:=decide (c = 32 ∨ c = 10)
def spanL (p:Int → Bool):List UInt8 → Nat
 | []=>0
 | c :: l=>if p c.toNat then spanL p l + 1 else 0
theorem spanL_le (p:Int → Bool) (l:List UInt8):spanL p l ≤ l.length:=by
 induction l with
 | nil=>exact Nat.le_refl _
 | cons c l ih=>unfold spanL;split <;> simp <;> omega
theorem spanL_yes {p:Int → Bool} {c:UInt8} {l:List UInt8} (h:p c.toNat = true):spanL p (c :: l) = spanL p l + 1:=by simp [spanL,h]
theorem spanL_no {p:Int → Bool} {c:UInt8} {l:List UInt8} (h:p c.toNat = false):spanL p (c :: l) = 0:=by simp [spanL,h]
theorem spanL_drop_yes {p:Int → Bool} {s:ByteArray} {k:Nat} (h:k < s.size) (hp:p s[k].toNat = true):spanL p ((bts s).drop k) = spanL p ((bts s).drop (k + 1)) + 1:=by rw [bts_drop s k h,spanL_yes hp]
theorem spanL_drop_no {p:Int → Bool} {s:ByteArray} {k:Nat} (h:k < s.size) (hp:p s[k].toNat = false):spanL p ((bts s).drop k) = 0:=by rw [bts_drop s k h,spanL_no hp]
theorem spanL_all (p:Int → Bool) (l:List UInt8):∀ c ∈ l.take (spanL p l),p c.toNat = true:=by
 induction l with
 | nil=>intro c hc;simp at hc
 | cons x l ih =>
  intro c hc
  cases hx:p x.toNat with
  | true=>rw [spanL_yes hx,List.take_succ_cons] at hc;rcases List.mem_cons.1 hc with rfl | hc;exact hx;exact ih c hc
  | false=>rw [spanL_no hx] at hc;simp at hc
theorem spanL_append (p:Int → Bool) (a b:List UInt8) (h:∀ c ∈ a,p c.toNat = true):spanL p (a ++ b) = a.length + spanL p b:=by
 induction a with
 | nil=>simp
 | cons x a ih =>
  rw [List.cons_append,spanL_yes (h x (by simp)),ih (fun c hc=>h c (List.mem_cons_of_mem _ hc)),List.length_cons];omega
def wordN (l:List UInt8):Nat:=if 32 < spanL letterC l then 0 else spanL letterC l
theorem wordN_le (l:List UInt8):wordN l ≤ l.length:=by have:=spanL_le letterC l;unfold wordN;split <;> omega
abbrev Beg:=Int × List UInt8 × Nat
def begNo:Beg:=(0,[],0)
def ask1 (l:List UInt8):Beg:=(1,l.take (wordN l),wordN l)
def ask2:List UInt8 → Beg
 | []=>begNo
 | c :: r=>if c = 64 ∧ wordN r ≠ 0 then (2,r.take (wordN r),wordN r + 1) else begNo
def ask3:List UInt8 → Beg
 | []=>begNo
 | c :: r=>if c = 34 ∧ spanL quotedC r ≤ 40 ∧ r[spanL quotedC r]? = some 34 then (3,r.take (spanL quotedC r),spanL quotedC r + 2) else begNo
def signs:List (Int × List UInt8):=[(4,[40]),(5,[41]),(6,[44]),(7,[58]),(8,[46]),(9,[61]),(10,[45,91]),(11,[93,45,62])]
def ask4 (l:List UInt8):Beg:=match signs.find? (fun x=>x.2.isPrefixOf l) with
 | some x=>(x.1,[],x.2.length)
 | none=>begNo
def begL (l:List UInt8):Beg :=
 if 0 < (ask1 l).2.2 then ask1 l else if 0 < (ask2 l).2.2 then ask2 l else if 0 < (ask3 l).2.2 then ask3 l else ask4 l
theorem ask4_yes {l:List UInt8} {x:Int × List UInt8} (hx:x ∈ signs) (h:x.2.isPrefixOf l = true):ask4 l = (x.1,[],x.2.length):=by
 obtain ⟨r,hr⟩:=List.isPrefixOf_iff_prefix.1 h
 simp only [signs,List.mem_cons,List.not_mem_nil,or_false] at hx
 rcases hx with rfl | rfl | rfl | rfl | rfl | rfl | rfl | rfl <;> subst hr <;> simp [ask4,signs,List.isPrefixOf,List.find?]
theorem ask4_no {l:List UInt8} (h:∀ x ∈ signs,x.2.isPrefixOf l = false):ask4 l = begNo:=by
 unfold ask4
 rw [List.find?_eq_none.2 (fun x hx=>by rw [h x hx];simp)]
theorem begL_1 {l:List UInt8} (h:0 < (ask1 l).2.2):begL l = ask1 l:=by unfold begL;rw [if_pos h]
theorem begL_2 {l:List UInt8} (h1:¬ 0 < (ask1 l).2.2) (h:0 < (ask2 l).2.2):begL l = ask2 l:=by unfold begL;rw [if_neg h1,if_pos h]
theorem begL_3 {l:List UInt8} (h1:¬ 0 < (ask1 l).2.2) (h2:¬ 0 < (ask2 l).2.2) (h:0 < (ask3 l).2.2):begL l = ask3 l:=by unfold begL;rw [if_neg h1,if_neg h2,if_pos h]
theorem begL_4 {l:List UInt8} (h1:¬ 0 < (ask1 l).2.2) (h2:¬ 0 < (ask2 l).2.2) (h3:¬ 0 < (ask3 l).2.2):begL l = ask4 l:=by unfold begL;rw [if_neg h1,if_neg h2,if_neg h3]
theorem ask4_zero {l:List UInt8} (h:¬ 0 < (ask4 l).2.2):ask4 l = begNo:=by
 unfold ask4 at h ⊢
 cases hf:signs.find? (fun x=>x.2.isPrefixOf l) with
 | none=>rfl
 | some x =>
  rw [hf] at h
  have hx:=List.mem_of_find?_eq_some hf
  have:∀ x ∈ signs,0 < x.2.length:=by decide
  exact absurd (this x hx) h
structure Tk where
 kind:Int
 text:ByteArray
 at_:Int
def standsL (k:Int) (l:List UInt8):List UInt8 :=
 if k = 1 then l else if k = 2 then 64 :: l else if k = 3 then 34 :: (l ++ [34]) else ((signs.find? (fun x=>decide (x.1 = k))).map (·.2)).getD []
theorem standsL_sign {k:Int} {x:List UInt8} (h:(k,x) ∈ signs) (l:List UInt8):standsL k l = x:=by
 simp only [signs,List.mem_cons,List.not_mem_nil,or_false,Prod.mk.injEq] at h
 rcases h with h | h | h | h | h | h | h | h <;> obtain ⟨rfl,rfl⟩:=h <;> rfl
theorem standsL_none {k:Int} (h1:k ≠ 1) (h2:k ≠ 2) (h3:k ≠ 3) (h:∀ x ∈ signs,x.1 ≠ k) (l:List UInt8):standsL k l = []:=by
 unfold standsL
 rw [if_neg h1,if_neg h2,if_neg h3,List.find?_eq_none.2 (fun x hx=>by simpa using h x hx)]
 rfl
def checkB (k:Int) (l:List UInt8) (at_:Int):Bool :=
 decide ((begL (standsL k l)).2.2 ≠ 0) && decide ((begL (standsL k l)).2.2 = (standsL k l).length) && decide ((begL (standsL k l)).1 = k) && decide ((begL (standsL k l)).2.1 = l) && decide (0 ≤ at_)
def Tk.stands (t:Tk):List UInt8:=standsL t.kind (bts t.text)
def Tk.check (t:Tk):Bool:=checkB t.kind (bts t.text) t.at_
end

/- Hashes of texts: plain, no program in sight. -/
section
def sbt (s:ByteArray):List Int:=s.data.toList.map fun u=>(u.toNat:Int)
theorem sbt_len (s:ByteArray):(sbt s).length = s.size:=by simp [sbt]
def hashStep (h c:Int):Int:=((h.toNat ^^^ c.toNat:Nat):Int) * 1099511628211 % 18446744073709551616
def hashL (h:Int):List Int → Int
 | []=>h
 | c :: l=>hashL (hashStep h c) l
theorem hashL_snoc (h:Int) (l:List Int) (c:Int):hashL h (l ++ [c]) = hashStep (hashL h l) c:=by
 induction l generalizing h with
 | nil=>rfl
 | cons x l ih=>simp [hashL,ih]
theorem hashStep_range (h c:Int):0 ≤ hashStep h c ∧ hashStep h c < 18446744073709551616:=⟨Int.emod_nonneg _ (by omega),Int.emod_lt_of_pos _ (by omega)⟩
theorem hashL_range (h:Int) (l:List Int) (h0:0 ≤ h) (h1:h < 18446744073709551616):0 ≤ hashL h l ∧ hashL h l < 18446744073709551616:=by
 induction l generalizing h with
 | nil=>exact ⟨h0,h1⟩
 | cons x l ih=>exact ih _ (hashStep_range h x).1 (hashStep_range h x).2
theorem sbt_get (s:ByteArray) (k:Nat) (h:k < s.size):(sbt s)[k]'(by rw [sbt_len];exact h) = (s[k].toNat:Int):=by
 unfold sbt
 rw [List.getElem_map]
 rfl
theorem wrap64 (n:Int):IntKind.u64.wrap n = n % 18446744073709551616:=by simp [IntKind.wrap,IntKind.bits,IntKind.signed]
theorem xor_step (h c:Int) (h0:0 ≤ h) (h1:h < 18446744073709551616) (c0:0 ≤ c) (c1:c < 256):IntKind.u64.wrap (bits .xor .u64 h c * 1099511628211) = hashStep h c:=by
 rw [wrap64,u64_xor h c h0 h1 c0 (by omega)]
 rfl
def turn (a c:Nat):Nat → Nat
 | 0=>0
 | k + 1=>if a / 2 ^ k % 2 ≠ c / 2 ^ k % 2 then turn a c k + 2 ^ k else turn a c k
theorem turn_succ (a c k:Nat):turn a c (k + 1) = if a / 2 ^ k % 2 ≠ c / 2 ^ k % 2 then turn a c k + 2 ^ k else turn a c k:=rfl
theorem turn_xor (a c k:Nat):turn a c k = (a ^^^ c) % 2 ^ k:=by
 induction k with
 | zero=>simp [turn,Nat.mod_one]
 | succ k ih =>
  rw [turn_succ,Nat.mod_pow_succ,← ih]
  rw [Nat.xor_div_two_pow]
  have hm:∀ x y:Nat,(x ^^^ y) % 2 = (x % 2 ^^^ y % 2):=fun x y=>by
   have:=@Nat.xor_mod_two_pow x y 1
   simpa using this
  rw [hm]
  have e1:a / 2 ^ k % 2 = 0 ∨ a / 2 ^ k % 2 = 1:=by omega
  have e2:c / 2 ^ k % 2 = 0 ∨ c / 2 ^ k % 2 = 1:=by omega
  rcases e1 with e1 | e1 <;> rcases e2 with e2 | e2 <;> simp [e1,e2]
theorem turn_lt (a c k:Nat):turn a c k < 2 ^ k:=by rw [turn_xor];exact Nat.mod_lt _ (Nat.pow_pos (by omega))
theorem xor_turn (h c:Nat) (hc:c < 256):h ^^^ c = h - h % 256 + turn (h % 256) c 8:=by
 rw [turn_xor]
 have hx:(h % 256 ^^^ c) % 2 ^ 8 = (h ^^^ c) % 256:=by
  rw [show (256:Nat) = 2 ^ 8 from rfl,Nat.xor_mod_two_pow,Nat.xor_mod_two_pow,Nat.mod_mod]
 have hd:(h ^^^ c) / 256 = h / 256:=by
  rw [show (256:Nat) = 2 ^ 8 from rfl,Nat.xor_div_two_pow,Nat.div_eq_of_lt (show c < 2 ^ 8 from hc)];simp
 rw [hx]
 have:=Nat.div_add_mod (h ^^^ c) 256
 have:=Nat.div_add_mod h 256
 omega
end

end Go.Proofs.YtkmbnghghbfkdaaGreat
