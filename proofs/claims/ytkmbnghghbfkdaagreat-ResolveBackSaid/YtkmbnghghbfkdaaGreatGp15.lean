/- The document's state: a token is taken. -/
import Derived.Test.YtkmbnghghbfkdaaGreatGp14
import Derived.Test.YtkmbnghghbfkdaaGreatGp03
import Derived.Test.YtkmbnghghbfkdaaGreatGp12
import Derived.Test.YtkmbnghghbfkdaaGreatGp13
import Derived.Test.YtkmbnghghbfkdaaGreatGp02
import Derived.Test.YtkmbnghghbfkdaaGreatGp01
set_option linter.unusedSimpArgs false
set_option linter.unusedVariables false
set_option maxHeartbeats 2000000
set_option maxRecDepth 100000
namespace Go.Proofs.YtkmbnghghbfkdaaGreat
open Go.Lib (hid)

section
open Go.RowKit Go.Shelf Go.Sort
attribute [local go_sem] Oper.semAt_some wide_fn wide_depth
end

/- The document's state: the token that is looked for is taken. -/
section
open Go.RowKit Go.Shelf Go.Sort
attribute [local go_sem] Oper.semAt_some wide_fn wide_depth
end

/- The document's state: is a word told here? -/
section
open Go.RowKit Go.Shelf Go.Sort
attribute [local go_sem] Oper.semAt_some wide_fn wide_depth
theorem str_dec (x y:ByteArray):(x.toList == y.toList) = decide (x = y):=by
 by_cases h:x = y
 ·rw [str_yes h,decide_eq_true h]
 ·rw [str_no h,decide_eq_false h]
end

/- The document: is a text among others? -/
section
open Go.RowKit Go.Shelf Go.Sort
attribute [local go_sem] Oper.semAt_some wide_fn wide_depth
theorem hasB_take (s:ByteArray) (T:List ByteArray) (i:Nat) (h:i < T.length):hasB s (T.take (i + 1)) = (hasB s (T.take i) || decide (T[i] = s)):=by
 unfold hasB
 rw [List.take_succ_eq_append_getElem h,List.any_append];simp
theorem hasB_mem {s:ByteArray} {T:List ByteArray} {i:Nat} (h:i < T.length) (hb:T[i] = s):hasB s T = true:=by
 rw [hasB_iff]
 exact hb ▸ List.getElem_mem h
set_option maxHeartbeats 1000000 in
theorem hasS_any (s:ByteArray) (v:Value) (T:List ByteArray) (w:World) (hT:Strs w v T) :
 Calls Tryz.prog 95 #[v,.string s] w fun e w'=>e = .returned (.bool (hasB s T)) ∧ Ext w w':=by
 obtain ⟨a,c,rfl,hc1,hc2⟩:=Sl.shape hT
 have HT:=hid hT
 clear hT
 go_enter Tryz.func95,Tryz.ntmps95
 go_wp2_with fail
 go_loopg [9] T.length (fun g i wr=>∃ j:Nat,j ≤ T.length ∧ g = T.length - j ∧ i = .int .i64 j ∧ hasB s (T.take j) = false ∧ Ext w wr)
 case atStart=>exact ⟨0,Nat.zero_le _,rfl,rfl,rfl,Ext.refl _⟩
 case round =>
  obtain ⟨j,hj,hg,rfl,hb,hxr⟩:=hrel
  have Hg:=hid hg
  have HB:=hid hb
  clear hg hb
  by_cases hlt:j < T.length
  ·obtain ⟨b,o,rfl,c0⟩:=(HT.out.ext hxr).at_ hlt
   have hsn:=hasB_take s T j hlt
   have hmem:=fun h=>hasB_mem (s:=s) hlt h
   rw [HB.out,Bool.false_or] at hsn
   generalize T[j] = x at *
   have HSN:=hid hsn
   have HMEM:=hid hmem
   clear hsn hmem
   by_cases hxs:x = s
   ·have hs:(x.toList == s.toList) = true:=str_yes hxs
    have HF:=hid (HMEM.out hxs)
    clear hxs
    go_wp2_with fail
    go_ret
    exact ⟨by rw [HF.out];rfl,hxr⟩
   ·have hs:(x.toList == s.toList) = false:=str_no hxs
    have HD:=hid hxs
    clear hxs
    go_wp2_with fail
    go_roundg (T.length - (j + 1))
    case measure=>have:=Hg.out;omega
    case rel=>exact ⟨j + 1,by omega,rfl,by go_num,by rw [HSN.out];exact decide_eq_false HD.out,hxr⟩
  ·have he:j = T.length:=by omega
   subst he
   go_wp2_with fail
   go_ret
   exact ⟨by rw [← HB.out,List.take_length];rfl,hxr⟩
end

/- A new row of another's elements and one more, made in any order. -/
section
open Go.RowKit Go.Shelf Go.Sort
attribute [local go_sem] Oper.semAt_some wide_fn wide_depth
structure AppF (w0:World) (e:TypeId) (sz n:Nat) (xs ys:List Value) (v px nm:Value) (S:Nat → Bool) (u0 u1 u2 u3 u4 u5 u6 u7:Value) (W:World):Prop where
 ext:Ext w0 W
 a0:S 0 = true → S 2 = false → W.ownsRow w0.heap.size e sz u0 0 []
 a1:S 1 = true → u1 = v
 a2:S 2 = true → S 6 = false → W.ownsRow w0.heap.size e sz u2 n xs
 a3:S 3 = true → u3 = px
 a4:S 4 = true → u4 = nm
 a5:S 5 = true → S 6 = false → W.ownsRow w0.heap.size e sz u5 1 ys
 ne:S 0 = true → S 2 = false → S 5 = true → ∀ b,u5.ownBlock = some b → u0.ownBlock ≠ some b
 a6:S 6 = true → W.ownsRow w0.heap.size e sz u6 (n + 1) (xs ++ ys)
 a7:S 7 = true → W.ownsRow w0.heap.size e sz u7 (n + 1) (xs ++ ys)
 d2:S 2 = true → S 0 = true
 d6:S 6 = true → S 2 = true ∧ S 5 = true
 d7:S 7 = true → S 6 = true
def AppG (w0:World) (e:TypeId) (sz n:Nat) (xs ys:List Value) (v px nm:Value) (S:Nat → Bool) (us:List Value) (W:World):Prop :=
 ∃ u0 u1 u2 u3 u4 u5 u6 u7,us = [u0,u1,u2,u3,u4,u5,u6,u7] ∧ AppF w0 e sz n xs ys v px nm S u0 u1 u2 u3 u4 u5 u6 u7 W
theorem own_in {W:World} {B:Nat} {e:TypeId} {sz n b:Nat} {v:Value} {xs:List Value} (h:W.ownsRow B e sz v n xs) (hb:v.ownBlock = some b):b < W.heap.size:=by
 rcases h.2 with ⟨rfl,_⟩ | ⟨g,cap,cur,rfl,h1,h2,_⟩
 ·cases hb
 ·cases hb
  exact (Array.getElem?_eq_some_iff.1 h2).1
theorem own_far {w w':World} {B size n:Nat} {ty:TypeId} {v:Value} {xs:List Value} {row:Option Nat} (h:w.ownsRow B ty size v n xs) (hg:w.grownBy w' row) (hv:∀ b,v.ownBlock = some b → row ≠ some b):w'.ownsRow B ty size v n xs:=by
 refine ⟨h.1,?_⟩
 rcases h.2 with hn | ⟨g',cap,cur,rfl,hbg,hgg,rest⟩
 ·exact .inl hn
 ·exact .inr ⟨g',cap,cur,rfl,hbg,(hg.block g' (Array.getElem?_eq_some_iff.1 hgg).1 (fun e=>hv g' rfl e.symm)).trans hgg,rest⟩
def depA:Nat → List Nat
 | 2=>[0,1]
 | 4=>[3]
 | 5=>[4]
 | 6=>[2,5]
 | 7=>[6]
 | _=>[]
section
variable {w0:World} {e:TypeId} {sz n:Nat} {xs ys:List Value} {v px nm:Value} {S:Nat → Bool} {us:List Value} {u0 u1 u2 u3 u4 u5 u6 u7:Value} {W:World}
theorem AppG.start (hl:us.length = 8) (hx:Ext w0 W):AppG w0 e sz n xs ys v px nm (fun _=>false) us W:=by
 match us,hl with
 | [u0,u1,u2,u3,u4,u5,u6,u7],_=>exact ⟨u0,u1,u2,u3,u4,u5,u6,u7,rfl,hx,nofun,nofun,nofun,nofun,nofun,nofun,nofun,nofun,nofun,nofun,nofun,nofun⟩
theorem AppF.g (h:AppF w0 e sz n xs ys v px nm S u0 u1 u2 u3 u4 u5 u6 u7 W):AppG w0 e sz n xs ys v px nm S [u0,u1,u2,u3,u4,u5,u6,u7] W:=⟨_,_,_,_,_,_,_,_,rfl,h⟩
theorem AppF.s0 (h:AppF w0 e sz n xs ys v px nm S u0 u1 u2 u3 u4 u5 u6 u7 W) (hn:S 0 = false) :
 AppG w0 e sz n xs ys v px nm (updB S 0) [.slice (some ⟨W.heap.size,0,none⟩) 0 0,u1,u2,u3,u4,u5,u6,u7] (W.alloc (.cells #[] e)):=by
 have hx:=Ext.alloc W (.cells #[] e)
 have h2:¬ S 2 = true:=fun e=>by have:=h.d2 e;rw [hn] at this;cases this
 have h6:¬ S 6 = true:=fun e=>h2 (h.d6 e).1
 refine AppF.g ⟨h.ext.trans hx,fun _ _=>own_new _ _ _ _ _ _ h.ext.size (by simp) (Nat.zero_le _),h.a1,fun e=>absurd e h2,h.a3,h.a4,fun e e'=>own_ext (h.a5 e e') hx,fun _ _ e5 b hb hh=>?_,fun e=>absurd e h6,fun e=>absurd (h.d7 e) h6,fun _=>rfl,fun e=>absurd e h6,h.d7⟩
 have hlt:=own_in (h.a5 e5 (by simpa using h6)) hb
 have:W.heap.size = b:=Option.some.inj hh
 omega
theorem AppF.s1 (h:AppF w0 e sz n xs ys v px nm S u0 u1 u2 u3 u4 u5 u6 u7 W):AppG w0 e sz n xs ys v px nm (updB S 1) [u0,v,u2,u3,u4,u5,u6,u7] W :=
 AppF.g ⟨h.ext,h.a0,fun _=>rfl,h.a2,h.a3,h.a4,h.a5,h.ne,h.a6,h.a7,h.d2,h.d6,h.d7⟩
theorem AppF.s2 (h:AppF w0 e sz n xs ys v px nm S u0 u1 u2 u3 u4 u5 u6 u7 W) (h0:S 0 = true) (hn:S 2 = false) {W':World} {u:Value} (hb:Below w0.heap.size W W') (hg:W.grownBy W' u0.ownBlock) (ho:W'.ownsRow w0.heap.size e sz u n xs) :
 AppG w0 e sz n xs ys v px nm (updB S 2) [u0,u1,u,u3,u4,u5,u6,u7] W':=by
 have h6:¬ S 6 = true:=fun e=>by have:=(h.d6 e).1;rw [hn] at this;cases this
 exact AppF.g ⟨Below.trans h.ext hb,fun _ e=>(by cases e),h.a1,fun _ _=>ho,h.a3,h.a4,fun e e'=>own_far (h.a5 e e') hg (fun b hv=>h.ne h0 hn e b hv),fun _ e=>(by cases e),fun e=>absurd e h6,fun e=>absurd (h.d7 e) h6,fun _=>h0,fun e=>absurd e h6,h.d7⟩
theorem AppF.s3 (h:AppF w0 e sz n xs ys v px nm S u0 u1 u2 u3 u4 u5 u6 u7 W):AppG w0 e sz n xs ys v px nm (updB S 3) [u0,u1,u2,px,u4,u5,u6,u7] W :=
 AppF.g ⟨h.ext,h.a0,h.a1,h.a2,fun _=>rfl,h.a4,h.a5,h.ne,h.a6,h.a7,h.d2,h.d6,h.d7⟩
theorem AppF.s4 (h:AppF w0 e sz n xs ys v px nm S u0 u1 u2 u3 u4 u5 u6 u7 W):AppG w0 e sz n xs ys v px nm (updB S 4) [u0,u1,u2,u3,nm,u5,u6,u7] W :=
 AppF.g ⟨h.ext,h.a0,h.a1,h.a2,h.a3,fun _=>rfl,h.a5,h.ne,h.a6,h.a7,h.d2,h.d6,h.d7⟩
theorem AppF.s5 (h:AppF w0 e sz n xs ys v px nm S u0 u1 u2 u3 u4 u5 u6 u7 W) (hn:S 5 = false) (hy:ys.length = sz) :
 AppG w0 e sz n xs ys v px nm (updB S 5) [u0,u1,u2,u3,u4,.slice (some ⟨W.heap.size,0,none⟩) 1 1,u6,u7] (W.alloc (.cells ys.toArray e)):=by
 have hx:=Ext.alloc W (.cells ys.toArray e)
 have h6:¬ S 6 = true:=fun e=>by have:=(h.d6 e).2;rw [hn] at this;cases this
 refine AppF.g ⟨h.ext.trans hx,fun e e'=>own_ext (h.a0 e e') hx,h.a1,fun e e'=>own_ext (h.a2 e e') hx,h.a3,h.a4,fun _ _=>own_new _ _ ys.toArray _ _ _ h.ext.size (by simp [hy]) (by unfold maxLen;omega),fun e0 e2 _ b hb hh=>?_,fun e=>absurd e h6,fun e=>absurd (h.d7 e) h6,h.d2,fun e=>absurd e h6,h.d7⟩
 have hlt:=own_in (h.a0 e0 e2) hh
 have:W.heap.size = b:=Option.some.inj hb
 omega
theorem AppF.s6 (h:AppF w0 e sz n xs ys v px nm S u0 u1 u2 u3 u4 u5 u6 u7 W) (h2:S 2 = true) (h5:S 5 = true) (hn:S 6 = false) {W':World} {u:Value} (hb:Below w0.heap.size W W') (ho:W'.ownsRow w0.heap.size e sz u (n + 1) (xs ++ ys)) :
 AppG w0 e sz n xs ys v px nm (updB S 6) [u0,u1,u2,u3,u4,u5,u,u7] W':=by
 have h7:¬ S 7 = true:=fun e=>by have:=h.d7 e;rw [hn] at this;cases this
 exact AppF.g ⟨Below.trans h.ext hb,fun _ e=>(by have e':S 2 = false:=e;rw [h2] at e';cases e'),h.a1,fun _ e=>(by cases e),h.a3,h.a4,fun _ e=>(by cases e),fun _ e=>(by have e':S 2 = false:=e;rw [h2] at e';cases e'),fun _=>ho,fun e=>absurd e h7,h.d2,fun _=>⟨h2,h5⟩,fun e=>absurd e h7⟩
theorem AppF.s7 (h:AppF w0 e sz n xs ys v px nm S u0 u1 u2 u3 u4 u5 u6 u7 W) (h6:S 6 = true):AppG w0 e sz n xs ys v px nm (updB S 7) [u0,u1,u2,u3,u4,u5,u6,u6] W :=
 AppF.g ⟨h.ext,h.a0,h.a1,h.a2,h.a3,h.a4,h.a5,h.ne,h.a6,fun _=>h.a6 h6,h.d2,h.d6,fun _=>h6⟩
end
end

/- The document: variables with that of a term. -/
section
open Go.RowKit Go.Shelf Go.Sort
attribute [local go_sem] Oper.semAt_some wide_fn wide_depth
theorem nil_yes {x:ByteArray} (h:x = nilB):x.toList.isEmpty = true:=by rw [ByteArray.toList_eq,h];rfl
theorem nil_no {x:ByteArray} (h:x ≠ nilB):x.toList.isEmpty = false:=by
 rw [ByteArray.toList_eq]
 cases hd:x.data.toList with
 | nil=>exact absurd (bts_inj (show bts x = bts nilB from hd)) h
 | cons a r=>rfl
theorem strs_one (T:List ByteArray):∀ x ∈ T.map Value.string,x.oneCell' = true:=by
 intro x hx
 obtain ⟨y,_,rfl⟩:=List.mem_map.1 hx
 rfl
def termS (T:List ByteArray) (t:Bool × ByteArray):List ByteArray:=if t.1 = true ∨ t.2 = nilB ∨ hasB t.2 T = true then T else T ++ [t.2]
set_option maxHeartbeats 1000000 in
theorem termS_any (v:Value) (T:List ByteArray) (key:Bool) (name:ByteArray) (w:World) (hT:Strs w v T) (hl:T.length ≤ 1000000000) :
 Calls Tryz.prog 92 #[v,.agg #[.bool key,.string name]] w fun e w'=>∃ u,e = .returned u ∧ Strs w' u (termS T (key,name)) ∧ Ext w w':=by
 have hmo:Tryz.prog.follows .mixedOrders = true:=by kernel_rfl
 obtain ⟨a,c,rfl,hc1,hc2⟩:=Sl.shape hT
 have hx0:=Ext.alloc w (.cells #[.bool key,.string name] 86)
 have hb0:RowAt (w.alloc (.cells #[.bool key,.string name] 86)) w.heap.size 86 [.bool key,.string name]:=RowAt.new _ _ _
 have HX:=hid hx0
 have HB:=hid hb0
 have HT:=hid hT
 clear hT hx0 hb0
 cases key with
 | true =>
  have hres:termS T (true,name) = T:=by unfold termS;simp
  rw [hres]
  clear hres
  go_enter Tryz.func92,Tryz.ntmps92
  go_wp2_with fail
  go_ret
  exact ⟨_,rfl,HT.out.ext HX.out,HX.out⟩
 | false =>
  by_cases hnm:name = nilB
  ·have hs:name.toList.isEmpty = true:=nil_yes hnm
   have hres:termS T (false,name) = T:=by unfold termS;rw [if_pos (.inr (.inl hnm))]
   rw [hres]
   clear hres hnm
   go_enter Tryz.func92,Tryz.ntmps92
   go_wp2_with fail
   go_ret
   exact ⟨_,rfl,HT.out.ext HX.out,HX.out⟩
  ·have hs:name.toList.isEmpty = false:=nil_no hnm
   have hha:=hasS_any name _ T _ (HT.out.ext HX.out)
   have HH:=hid hha
   clear hha
   by_cases hin:hasB name T = true
   ·have hres:termS T (false,name) = T:=by unfold termS;rw [if_pos (.inr (.inr hin))]
    rw [hres]
    rw [hin] at HH
    clear hres hnm hin
    go_enter Tryz.func92,Tryz.ntmps92
    go_wp2_with fail
    refine HH.out.mono ?_
    rintro e w1 ⟨rfl,hx1⟩
    go_wp2_with fail
    go_ret
    exact ⟨_,rfl,HT.out.ext (HX.out.trans hx1),HX.out.trans hx1⟩
   ·have hres:termS T (false,name) = T ++ [name]:=by unfold termS;rw [if_neg (by simp only [hnm,hin];simp)]
    have hf:hasB name T = false:=by simpa using hin
    rw [hres]
    rw [hf] at HH
    clear hres hnm hin hf
    go_enter Tryz.func92,Tryz.ntmps92
    go_wp2_with fail
    refine HH.out.mono ?_
    rintro e w1 ⟨rfl,hx1⟩
    have HX1:=hid (HX.out.trans hx1)
    have HB1:=hid (HB.out.ext hx1)
    have HT1:=hid (HT.out.ext HX1.out)
    clear hx1
    go_upto_region 3 with fail
    clear hs
    obtain ⟨x,hx⟩:∃ x,w.heap.size = x:=⟨_,rfl⟩
    rw [hx] at HB1
    try simp only [hx]
    clear hx
    refine wp_region_inv [19,20,21,22,23,24,25,4] _ depA (AppG w1 9 1 T.length (T.map Value.string) [.string name] (.slice a T.length c) (.pointer (some ⟨x,1,none⟩)) (.string name)) hmo (by kernel_rfl) (by kernel_rfl) (puts_self _ _) (AppG.start rfl (Ext.drewN w1 1)) ?_ ?_
    ·refine ⟨?_,?_,?_,?_,?_,?_,?_,?_,trivial⟩
     all_goals
      rintro S us wq hd hn ⟨u0,u1,u2,u3,u4,u5,u6,u7,rfl,hF⟩ K hK
      have hK':=fun u0 u1 u2 u3 u4 u5 u6 u7 w' h=>hK [u0,u1,u2,u3,u4,u5,u6,u7] w' h
      clear hK
      simp only [puts,Act.put,List.setIfInBounds_toArray,List.set_cons_succ,List.set_cons_zero] at hK' ⊢
      have HK:=hid hK'
      have HF:=hid hF
      have HN:=hid hn
      have HD:=hid hd
      clear hK' hF hn hd
     ·have hk:=HK.out _ u1 u2 u3 u4 u5 u6 u7 _ (HF.out.s0 HN.out)
      go_simp
      exact hk
     ·have hk:=HK.out u0 _ u2 u3 u4 u5 u6 u7 _ HF.out.s1
      go_simp
      exact hk
     ·have h0:=HD.out 0 (by decide)
      have hv:=HF.out.a1 (HD.out 1 (by decide))
      have ho:=HF.out.a0 h0 HN.out
      have hsl:=HT1.out.ext HF.out.ext
      rw [← hv] at hsl
      have HO:=hid ho
      have HS:=hid hsl
      have H0:=hid h0
      clear hv ho hsl h0
      rw [if_pos (show Region.wanted _ _ = true from rfl)]
      refine wp_append_sl wq _ _ 22 rfl elStr rfl HO.out rfl HS.out (by simp) (strs_one T) (by omega) (by unfold maxLen;omega) HF.out.ext.size ?_
      intro v' w' ho hb hg _
      simp only [Act.put,List.setIfInBounds_toArray,List.set_cons_succ,List.set_cons_zero]
      rw [Nat.zero_add,List.nil_append] at ho
      exact HK.out u0 u1 v' u3 u4 u5 u6 u7 w' (HF.out.s2 H0.out HN.out hb hg ho)
     ·have hk:=HK.out u0 u1 u2 _ u4 u5 u6 u7 _ HF.out.s3
      go_simp
      exact hk
     ·have hu:=HF.out.a3 (HD.out 3 (by decide))
      have hk:=HK.out u0 u1 u2 u3 _ u5 u6 u7 _ HF.out.s4
      have d1:=(HB1.out.ext HF.out.ext).cell (i:=1) rfl
      subst hu
      go_simp
      exact hk
     ·have hu:=HF.out.a4 (HD.out 4 (by decide))
      have hk:=HK.out u0 u1 u2 u3 u4 _ u6 u7 _ (HF.out.s5 HN.out rfl)
      subst hu
      go_simp
      exact hk
     ·have h2:=HD.out 2 (by decide)
      have h5:=HD.out 5 (by decide)
      have ho:=HF.out.a2 h2 HN.out
      have hsl:=Sl.of_own (HF.out.a5 h5 HN.out)
      rw [if_pos (show Region.wanted _ _ = true from rfl)]
      refine wp_append_sl wq _ _ 22 rfl elStr rfl ho rfl hsl (by simp) (strs_one [name]) (by omega) (by unfold maxLen;omega) HF.out.ext.size ?_
      intro v' w' ho hb hg _
      simp only [Act.put,List.setIfInBounds_toArray,List.set_cons_succ,List.set_cons_zero]
      exact HK.out u0 u1 u2 u3 u4 u5 v' u7 w' (HF.out.s6 h2 h5 HN.out hb ho)
     ·have h6:=HD.out 6 (by decide)
      have hk:=HK.out u0 u1 u2 u3 u4 u5 u6 _ _ (HF.out.s7 h6)
      go_simp
      exact hk
    ·rintro S us wq hS ⟨u0,u1,u2,u3,u4,u5,u6,u7,rfl,hF⟩
     have ho:=hF.a7 (hS 7 (by decide))
     have HXF:=hid (HX1.out.trans hF.ext)
     have HO:=hid ho
     clear ho hF hS
     simp only [puts,Act.put,List.setIfInBounds_toArray,List.set_cons_succ,List.set_cons_zero]
     go_wp2_with fail
     go_ret
     refine ⟨_,rfl,?_,HXF.out⟩
     have h:=Sl.of_own HO.out
     unfold Strs
     rw [List.length_append,List.map_append]
     exact h
end

/- The reader in memory; one token. -/
section
open Go.RowKit Go.Shelf Go.Sort
attribute [local go_sem] Oper.semAt_some wide_fn wide_depth
end

/- A token is taken, or found wrong. -/
section
open Go.RowKit Go.Shelf Go.Sort
attribute [local go_sem] Oper.semAt_some wide_fn wide_depth
end

/- A word, a number, tokens one behind the other. -/
section
open Go.RowKit Go.Shelf Go.Sort
attribute [local go_sem] Oper.semAt_some wide_fn wide_depth
end

/- The reader among its atoms: what is its own, and what it leaves as it was. -/
section
open Go.RowKit Go.Shelf Go.Sort
def atCells (a:Atm):List Value:=[.int .i64 a.kind,.bool a.fk,.string a.fn,.string a.name,.string a.value,.bool a.tk,.string a.tn]
theorem heap_set_ne {w w':World} {g b:Nat} (h:w.grownBy w' (some g)) (hb:b < w.heap.size) (hne:b ≠ g):w'.heap[b]? = w.heap[b]?:=h.block b hb (fun e=>hne (Option.some.inj e))
theorem own_turn {W W':World} {B size n g:Nat} {e t:TypeId} {v:Value} {xs ys:List Value} (h:W.ownsRow B e size v n xs) (hr:RowAt W g t ys) (hne:e ≠ t) (hg:W.grownBy W' (some g)):W'.ownsRow B e size v n xs:=by
 refine ⟨h.1,?_⟩
 rcases h.2 with hn | ⟨g',cap,cur,rfl,hbg,hgg,rest⟩
 ·exact .inl hn
 ·refine .inr ⟨g',cap,cur,rfl,hbg,?_,rest⟩
  have hg':g' ≠ g:=by
   rintro rfl
   have h1:=hgg.symm.trans hr
   simp only [Option.some.injEq,Obj.cells.injEq] at h1
   exact hne h1.2.1
  exact (heap_set_ne hg (Array.getElem?_eq_some_iff.1 hgg).1 hg').trans hgg
section
variable {w0:World} {ts:List Tk} {tv:Value} {g:Nat} {own:List Nat} {st:PS} {d e:Nat} {av vv:Value} {m:Nat} {W W':World}
theorem own_ne_row {w:World} {B size n g:Nat} {ty t:TypeId} {v:Value} {xs ys:List Value} (h:w.ownsRow B ty size v n xs) (hr:RowAt w g t ys) (hne:ty ≠ t):∀ b',v.ownBlock = some b' → b' ≠ g:=by
 rintro b' hb rfl
 rcases h.2 with ⟨rfl,_⟩ | ⟨g',cap,cur,rfl,hbg,hgg,rest⟩
 ·simp [Value.ownBlock] at hb
 ·simp [Value.ownBlock] at hb
  subst hb
  have h1:=hgg.symm.trans hr
  simp only [Option.some.injEq,Obj.cells.injEq] at h1
  exact hne h1.2.1
theorem own_ne_own {w:World} {B B' size size' n n':Nat} {ty t:TypeId} {v u:Value} {xs ys:List Value} (h:w.ownsRow B ty size v n xs) (hr:w.ownsRow B' t size' u n' ys) (hne:ty ≠ t):∀ b',v.ownBlock = some b' → u.ownBlock ≠ some b':=by
 rintro b' hb hu
 rcases h.2 with ⟨rfl,_⟩ | ⟨g',cap,cur,rfl,hbg,hgg,rest⟩
 ·simp [Value.ownBlock] at hb
 ·rcases hr.2 with ⟨rfl,_⟩ | ⟨g2,cap2,cur2,rfl,hbg2,hgg2,rest2⟩
  ·simp [Value.ownBlock] at hu
  ·simp [Value.ownBlock] at hb hu
   subst hb hu
   have h1:=hgg.symm.trans hgg2
   simp only [Option.some.injEq,Obj.cells.injEq] at h1
   exact hne h1.2.1
theorem own_apart {w w':World} {B size n:Nat} {ty:TypeId} {v:Value} {xs:List Value} {row:Option Nat} (h:w.ownsRow B ty size v n xs) (hg:w.grownBy w' row) (hv:∀ b,v.ownBlock = some b → row ≠ some b):w'.ownsRow B ty size v n xs:=by
 refine ⟨h.1,?_⟩
 rcases h.2 with hn | ⟨g',cap,cur,rfl,hbg,hgg,rest⟩
 ·exact .inl hn
 ·exact .inr ⟨g',cap,cur,rfl,hbg,(hg.block g' (Array.getElem?_eq_some_iff.1 hgg).1 (fun e=>hv g' rfl e.symm)).trans hgg,rest⟩
end
end

/- The document: how many atoms are edges. -/
section
open Go.RowKit Go.Shelf Go.Sort
attribute [local go_sem] Oper.semAt_some wide_fn wide_depth
def Ats (w:World) (v:Value) (l:List Atm):Prop:=Sl w v l.length (l.flatMap atCells)
theorem Ats.ext {w w':World} {v:Value} {l:List Atm} (h:Ats w v l) (hx:Ext w w'):Ats w' v l:=Sl.ext h hx
theorem Ats.shape {w:World} {v:Value} {l:List Atm} (h:Ats w v l):∃ a c,v = .slice a l.length c ∧ l.length ≤ c ∧ c ≤ 9223372036854775807:=Sl.shape h
theorem Ats.at_ {w:World} {a:Option Addr} {n c:Nat} {l:List Atm} (h:Ats w (.slice a n c) l) {k:Nat} (hk:k < l.length):∃ b o,a = some ⟨b,o,none⟩ ∧
 w.cell? ⟨b,o + k * 7,none⟩ = some (.int .i64 l[k].kind) ∧ w.cell? ⟨b,o + k * 7 + 1,none⟩ = some (.bool l[k].fk) ∧ w.cell? ⟨b,o + k * 7 + 2,none⟩ = some (.string l[k].fn) ∧
 w.cell? ⟨b,o + k * 7 + 3,none⟩ = some (.string l[k].name) ∧ w.cell? ⟨b,o + k * 7 + 4,none⟩ = some (.string l[k].value) ∧ w.cell? ⟨b,o + k * 7 + 5,none⟩ = some (.bool l[k].tk) ∧ w.cell? ⟨b,o + k * 7 + 6,none⟩ = some (.string l[k].tn):=by
 obtain ⟨a',c',e,_,_,hc⟩:=id h
 simp only [Value.slice.injEq] at e
 obtain ⟨rfl,_,rfl⟩:=e
 have hlen:=flatMap_len atCells 7 (fun _=>rfl) l
 obtain ⟨b,o,rfl,hcell⟩:=hc (by omega)
 have hh:=fun j (hj:j < 7)=>flatMap_at atCells 7 (fun _=>rfl) l k j hk hj
 exact ⟨b,o,rfl,hcell _ _ (hh 0 (by omega)),by rw [Nat.add_assoc];exact hcell _ _ (hh 1 (by omega)),by rw [Nat.add_assoc];exact hcell _ _ (hh 2 (by omega)),by rw [Nat.add_assoc];exact hcell _ _ (hh 3 (by omega)),by rw [Nat.add_assoc];exact hcell _ _ (hh 4 (by omega)),by rw [Nat.add_assoc];exact hcell _ _ (hh 5 (by omega)),by rw [Nat.add_assoc];exact hcell _ _ (hh 6 (by omega))⟩
theorem edgesOf_take (l:List Atm) (j:Nat) (h:j < l.length):edgesOf (l.take (j + 1)) = edgesOf (l.take j) + (if l[j].kind = 4 then 1 else 0):=by
 unfold edgesOf
 rw [List.take_succ_eq_append_getElem h,List.filter_append,List.length_append]
 by_cases h4:l[j].kind = 4 <;> simp [h4]
theorem edgesOf_le (l:List Atm):edgesOf l ≤ l.length:=List.length_filter_le _ _
set_option maxHeartbeats 1000000 in
theorem edgesS_any (v:Value) (l:List Atm) (w:World) (h:Ats w v l) (hl:l.length ≤ 1000000000) :
 Calls Tryz.prog 94 #[v] w fun e w'=>e = .returned (.int .i64 (edgesOf l:Nat)) ∧ Ext w w':=by
 obtain ⟨a,c,rfl,hc1,hc2⟩:=h.shape
 have H:=hid h
 clear h
 go_enter Tryz.func94,Tryz.ntmps94
 go_wp2_with fail
 go_loopg [3,8] l.length (fun g n i wr=>∃ j m:Nat,j ≤ l.length ∧ g = l.length - j ∧ i = .int .i64 j ∧ n = .int .i64 m ∧ m = edgesOf (l.take j) ∧ Ext w wr)
 case atStart=>exact ⟨0,0,Nat.zero_le _,rfl,rfl,rfl,rfl,Ext.refl _⟩
 case round =>
  obtain ⟨j,m,hj,hg,rfl,rfl,hm,hxr⟩:=hrel
  have Hg:=hid hg
  have hml:m ≤ l.length:=by rw [hm];exact Nat.le_trans (edgesOf_le _) (by simp;omega)
  have HM:=hid hm
  clear hg hm
  by_cases hlt:j < l.length
  ·obtain ⟨b,o,rfl,c0,c1,c2,c3,c4,c5,c6⟩:=(H.out.ext hxr).at_ hlt
   have hsn:=edgesOf_take l j hlt
   rw [← HM.out] at hsn
   generalize l[j] = x at *
   obtain ⟨k,fk,fn,nm,va,tk,tn⟩:=x
   dsimp only at c0 c1 c2 c3 c4 c5 c6 hsn
   have HSN:=hid hsn
   clear hsn
   have hwm:IntKind.i64.wrap ((m:Int) + 1) = (m:Int) + 1:=IntWalk.i64_in _ (by omega)
   by_cases hk:k = 4
   ·have hs:(k == 4) = true:=by simp [hk]
    have HS:=hid (show edgesOf (l.take (j + 1)) = m + 1 by rw [HSN.out,if_pos hk])
    clear hk
    go_wp2_with fail
    go_roundg (l.length - (j + 1))
    case measure=>have:=Hg.out;omega
    case rel=>exact ⟨j + 1,m + 1,by omega,rfl,by go_num,by go_num,HS.out.symm,hxr.trans (Ext.alloc _ _)⟩
   ·have hs:(k == 4) = false:=by simp [hk]
    have HS:=hid (show edgesOf (l.take (j + 1)) = m by rw [HSN.out,if_neg hk];rfl)
    clear hk
    go_wp2_with fail
    go_roundg (l.length - (j + 1))
    case measure=>have:=Hg.out;omega
    case rel=>exact ⟨j + 1,m,by omega,rfl,by go_num,rfl,HS.out.symm,hxr.trans (Ext.alloc _ _)⟩
  ·have he:j = l.length:=by omega
   subst he
   go_wp2_with fail
   go_ret
   exact ⟨by rw [HM.out,List.take_length];rfl,hxr⟩
end

/- The document: the variables of atoms. -/
section
open Go.RowKit Go.Shelf Go.Sort
attribute [local go_sem] Oper.semAt_some wide_fn wide_depth
def varsS (l:List Atm):List ByteArray:=l.foldl (fun T a=>termS (termS T (a.fk,a.fn)) (a.tk,a.tn)) []
theorem termS_len (T:List ByteArray) (t:Bool × ByteArray):(termS T t).length ≤ T.length + 1:=by
 unfold termS
 split
 ·omega
 ·simp
theorem varsS_take (l:List Atm) (j:Nat) (h:j < l.length):varsS (l.take (j + 1)) = termS (termS (varsS (l.take j)) (l[j].fk,l[j].fn)) (l[j].tk,l[j].tn):=by
 unfold varsS
 rw [List.take_succ_eq_append_getElem h,List.foldl_append]
 rfl
theorem varsS_take_len (l:List Atm):∀ j,j ≤ l.length → (varsS (l.take j)).length ≤ 2 * j
 | 0,_=>by simp [varsS]
 | j + 1,h=>by
  have ih:=varsS_take_len l j (by omega)
  have h1:=termS_len (varsS (l.take j)) (l[j].fk,l[j].fn)
  have h2:=termS_len (termS (varsS (l.take j)) (l[j].fk,l[j].fn)) (l[j].tk,l[j].tn)
  rw [varsS_take l j h]
  omega
def groV:Nat → Gro
 | 2=>.read
 | 3=>.grow
 | 5=>.read
 | 6=>.grow
 | _=>.pure
theorem varsS_any (v:Value) (l:List Atm) (w:World) (h:Ats w v l) (hl:l.length ≤ 100000000) :
 Calls Tryz.prog 49 #[v] w fun e w'=>∃ u,e = .returned u ∧ Strs w' u (varsS l) ∧ Ext w w':=by
 have hmo:Tryz.prog.follows .mixedOrders = true:=by kernel_rfl
 obtain ⟨a,c,rfl,hc1,hc2⟩:=h.shape
 have H:=hid h
 clear h
 go_enter Tryz.func49,Tryz.ntmps49
 go_wp2_with fail
 go_loopg [3,8] l.length (fun g n i wr=>∃ j:Nat,j ≤ l.length ∧ g = l.length - j ∧ i = .int .i64 j ∧ Strs wr n (varsS (l.take j)) ∧ Ext w wr)
 case atStart=>exact ⟨0,Nat.zero_le _,rfl,rfl,Sl.of_own (World.ownsRow_nil w 0 9 1),Ext.refl _⟩
 case round =>
  obtain ⟨j,hj,hg,rfl,hs,hxr⟩:=hrel
  have Hg:=hid hg
  obtain ⟨ua,uc,hu,hu1,hu2⟩:=Sl.shape hs
  subst hu
  have HS:=hid hs
  clear hg hs hu1 hu2
  by_cases hlt:j < l.length
  ·obtain ⟨b,o,rfl,c0,c1,c2,c3,c4,c5,c6⟩:=(H.out.ext hxr).at_ hlt
   have hsn:=varsS_take l j hlt
   have hln:=varsS_take_len l j hj
   generalize varsS (l.take j) = T at *
   generalize l[j] = x at *
   obtain ⟨k,fk,fn,nm,va,tk,tn⟩:=x
   dsimp only at c0 c1 c2 c3 c4 c5 c6 hsn
   have ht1:=termS_len T (fk,fn)
   have hbx:=RowAt.new wr 88 [.int .i64 k,.bool fk,.string fn,.string nm,.string va,.bool tk,.string tn]
   have hx1:=Ext.alloc wr (.cells #[.int .i64 k,.bool fk,.string fn,.string nm,.string va,.bool tk,.string tn] 88)
   have HSN:=hid hsn
   have HBX:=hid hbx
   have HX1:=hid (show Ext w _ from hxr.trans hx1)
   have HS1:=hid (HS.out.ext hx1)
   clear hsn hbx hx1
   go_upto_region 5 with fail
   clear c0 c1 c2 c3 c4 c5 c6
   generalize wr.alloc (.cells #[.int .i64 k,.bool fk,.string fn,.string nm,.string va,.bool tk,.string tn] 88) = w1 at *
   obtain ⟨y,hy⟩:∃ y,wr.heap.size = y:=⟨_,rfl⟩
   rw [hy] at HBX
   try simp only [hy]
   clear hy
   refine wp_region_gro groV [0,1,2,4,5,3,6,7] hmo (by kernel_rfl) rfl (by kernel_rfl) (fun _ _ _ _ _ h=>h) ?_
   have hxd:=Ext.drewN w1 1
   have hb:=HBX.out.ext hxd
   replace HX1:=hid (HX1.out.trans hxd)
   replace HS1:=hid (HS1.out.ext hxd)
   change GroW _ _ _ _ _ _ w1.drew
   replace hb:RowAt w1.drew y 88 [.int .i64 k,.bool fk,.string fn,.string nm,.string va,.bool tk,.string tn]:=hb
   replace HX1:Hid (Ext w w1.drew):=HX1
   replace HS1:Hid (Strs w1.drew (.slice ua T.length uc) T):=HS1
   clear hxd HBX
   generalize w1.drew = w2 at *
   have d1:=hb.cell (i:=1) rfl
   have d2:=hb.cell (i:=2) rfl
   have d5:=hb.cell (i:=5) rfl
   have d6:=hb.cell (i:=6) rfl
   have HC1:=hid (termS_any (.slice ua T.length uc) T fk fn w2 HS1.out (by omega))
   clear hb
   repeat (first
    | (refine groL_pure rfl rfl ?_;intro K hK;go_simp;refine hK _ ?_;clear hK K)
    | (refine groL_read rfl rfl ?_;intro K S hS hK;go_simp;refine hK _ ?_;clear hK K hS S)
    | (refine groL_read rfl rfl ?_;intro K S hS hK;go_simp;refine ⟨hS _ ?_,hK _ ?_⟩;(clear hK K hS S;intro w' hx';have hce:=ext_some hx';go_simp);clear hK K hS S)
    | (refine groL_write rfl rfl ?_;intro K hK;go_simp;refine hK _ _ ?_;clear hK K))
   refine groL_grow rfl rfl ?_
   intro K hK
   go_simp
   refine HC1.out.mono ?_
   rintro e w3 ⟨u1,rfl,hu1,hx3⟩
   go_simp
   refine hK _ _ ⟨hx3,?_⟩
   clear hK K d1 d2 d5 d6
   have HC2:=hid (termS_any u1 (termS T (fk,fn)) tk tn w3 hu1 (by omega))
   have HX3:=hid (HX1.out.trans hx3)
   clear hu1 hx3
   refine groL_grow rfl rfl ?_
   intro K hK
   go_simp
   refine HC2.out.mono ?_
   rintro e w4 ⟨u2,rfl,hu2,hx4⟩
   go_simp
   refine hK _ _ ⟨hx4,?_⟩
   clear hK K
   have HU2:=hid hu2
   have HX4:=hid (HX3.out.trans hx4)
   clear hu2 hx4
   repeat (first
    | (refine groL_pure rfl rfl ?_;intro K hK;go_simp;refine hK _ ?_;clear hK K)
    | (refine groL_read rfl rfl ?_;intro K S hS hK;go_simp;refine hK _ ?_;clear hK K hS S)
    | (refine groL_read rfl rfl ?_;intro K S hS hK;go_simp;refine ⟨hS _ ?_,hK _ ?_⟩;(clear hK K hS S;intro w' hx';have hce:=ext_some hx';go_simp);clear hK K hS S)
    | (refine groL_write rfl rfl ?_;intro K hK;go_simp;refine hK _ _ ?_;clear hK K))
   refine groL_nil ?_
   go_wp2_with fail
   go_roundg (l.length - (j + 1))
   case measure=>have:=Hg.out;omega
   case rel=>exact ⟨j + 1,by omega,rfl,by go_num,by rw [HSN.out];exact HU2.out,HX4.out⟩
  ·have he:j = l.length:=by omega
   subst he
   go_wp2_with fail
   go_ret
   refine ⟨.slice ua (varsS (l.take l.length)).length uc,rfl,?_,hxr⟩
   have h:=HS.out
   rw [List.take_length] at h ⊢
   exact h
end

end Go.Proofs.YtkmbnghghbfkdaaGreat
