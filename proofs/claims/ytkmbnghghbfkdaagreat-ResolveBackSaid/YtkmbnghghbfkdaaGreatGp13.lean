/- Signs, and the fourth that is asked. -/
import Derived.Test.YtkmbnghghbfkdaaGreatGp12
import Derived.Test.YtkmbnghghbfkdaaGreatGp02
import Derived.Test.YtkmbnghghbfkdaaGreatGp01
import Derived.Deep.Fields
import Derived.ChangeSame
import Derived.OpenShut
set_option linter.unusedSimpArgs false
set_option linter.unusedVariables false
set_option maxHeartbeats 2000000
set_option maxRecDepth 100000
namespace Go.Proofs.YtkmbnghghbfkdaaGreat
open Go.Lib (hid)

section
open Go.RowKit
def signKV:List (Value × Value):=signs.map fun x=>(.int .i64 x.1,.agg #[.string (txt x.2)])
theorem signs_any (w:World):Calls Tryz.prog 146 #[] w fun e w'=>e = .returned (.map (some w.heap.size)) ∧ MapAt (.int .i64) w' w.heap.size signKV ∧ Ext w w' ∧ w'.heap.size = w.heap.size + 1:=by
 have hmm:=@run_makeMap Tryz.prog
 have hM0:=MapAt.new (.int .i64) w
 have hB:Below w.heap.size w (w.alloc (.map #[] 0)):=Ext.alloc w _
 have hS:(w.alloc (.map #[] 0)).heap.size = w.heap.size + 1:=by simp
 have HM:=hid hM0
 have HB:=hid hB
 have HS:=hid hS
 clear hM0 hB hS
 go_enter Tryz.func146,Tryz.ntmps146
 go_wp2_with (refine wpList_insert_new _ rfl _ _ _ _ rfl Tryz.underlying207 Tryz.underlying3 rfl rfl rfl HM.out rfl (notIn rfl) ?_;intro w1 hM1 hg hs;have HB2:=hid (below_grown HB.out hg (by have:=HS.out;omega) (fun k hk=>by cases hk;exact Nat.le_refl _));have HS2:=hid (hs.trans HS.out);have HM2:=hid hM1;clear hM1 hg hs HB HS HM;have HB:=HB2;have HS:=HS2;have HM:=HM2;clear HB2 HS2 HM2)
 go_ret
 exact ⟨rfl,HM.out,HB.out,HS.out⟩
theorem born_inj {es:Array MapEntry} {c:Nat} (h:MapKept.Stamped es c) {x y:MapEntry} (hx:x ∈ es.toList) (hy:y ∈ es.toList) (e:x.born = y.born):x = y:=by
 obtain ⟨i,hi,rfl⟩:=List.getElem_of_mem hx
 obtain ⟨j,hj,rfl⟩:=List.getElem_of_mem hy
 have hp:=List.pairwise_iff_getElem.1 (List.pairwise_map.1 h.2.1)
 rcases Nat.lt_trichotomy i j with h | h | h
 ·exact absurd e (hp i j hi hj h)
 ·subst h;rfl
 ·exact absurd e.symm (hp j i hj hi h)
theorem ask4_any (s:ByteArray) (b:Nat) (w:World) (hs:s.size ≤ 9223372036854775807) (hb:w.cell? ⟨b,0,none⟩ = some (.string s)) :
 Calls Tryz.prog 155 #[.pointer (some ⟨b,0,none⟩)] w fun e w'=>e = .returned (begV (ask4 (bts s))) ∧ Ext w w':=by
 have hr:=RowAt.new w 185 [.int .i64 0,.string ⟨#[]⟩,.int .i64 0]
 have hb1:=ext_cell (Ext.alloc w (.cells #[.int .i64 0,.string ⟨#[]⟩,.int .i64 0] 185)) hb
 go_enter Tryz.func155,Tryz.ntmps155
 go_upto_region 1 with fail
 have hx0:=Ext.alloc w (.cells #[.int .i64 0,.string ⟨#[]⟩,.int .i64 0] 185)
 generalize w.alloc (.cells #[.int .i64 0,.string ⟨#[]⟩,.int .i64 0] 185) = w1 at *
 go_wp2_with fail
 refine (signs_any _).mono ?_
 rintro e w2 ⟨rfl,hm,hx,hsz⟩
 have hrg:=fun es c (h:w2.heap[w1.heap.size]? = some (.map es c))=>run_range_map (P:=Tryz.prog) w2 207 _ _ _ es c Tryz.underlying207 h
 obtain ⟨es,c,h1,h2,h3,h4⟩:=id hm
 have hrg:=hrg es c h1
 have H4:=hid h4
 clear h4
 go_wp2_with fail
 have H1:=hid h1
 have HB:=hid ((hb1 |> ext_cell hx))
 have HR:=hid (hr.ext hx)
 have hI:=World.alloc_heap_new w2 (.mapIter (some w1.heap.size) c #[] c)
 have hbe:w2.heap.size = w1.heap.size + 1:=hsz
 rw [hbe] at hI
 have HI:=hid hI
 have Hsz:=hid hsz
 clear hrg h1 hI hbe hsz hr hb hb1 hm
 go_loopg [3] ((leftOf es #[]).size) (fun g _ wr=>∃ seen,g = (leftOf es seen).size ∧ Ext w2 wr ∧ wr.heap[w1.heap.size + 1]? = some (.mapIter (some w1.heap.size) c seen c) ∧ ∀ e ∈ es.toList,e.born ∈ seen → ∀ x ∈ signs,e.key = .int .i64 x.1 → x.2.isPrefixOf (bts s) = false)
 case atStart=>exact ⟨#[],rfl,Ext.alloc _ _,HI.out,fun e _ h=>by simp at h⟩
 case round =>
  obtain ⟨seen,hg,hxr,hit,hno⟩:=hrel
  have Hg:=hid hg
  have Hno:=hid hno
  clear hg hno
  rcases next_step (P:=Tryz.prog) hxr (by rw [Hsz.out];exact Nat.le_refl _) H1.out h2 hit with ⟨hz,hrun⟩ | ⟨e,W,he,hrun,hxW,hIW,hen⟩
  ·have hall:∀ x ∈ signs,x.2.isPrefixOf (bts s) = false:=fun x hx=>by
    have hk:(Value.int .i64 x.1,Value.agg #[.string (txt x.2)]) ∈ signKV:=List.mem_map.2 ⟨x,hx,rfl⟩
    rw [← H4.out] at hk
    obtain ⟨e,he,hee⟩:=List.mem_map.1 hk
    simp only [Prod.mk.injEq] at hee
    refine Hno.out e he (Classical.byContradiction fun hs=>?_) x hx hee.1
    have:=leftOf_mem.2 ⟨he,hs⟩
    rw [Array.eq_empty_of_size_eq_zero hz] at this
    simp at this
   have Hfin:=hid (ask4_no hall)
   obtain ⟨c0,c1,c2,f0,f1,f2⟩:=(HR.out.ext hxr).facts3
   clear hall hz hit
   go_wp2_with fail
   exact bodyPost_ret (v:=begV begNo) (by simp [results,Tryz.results155,go_sem,c0,c1,c2,begV,tokV,begNo,txt]) rfl ⟨by rw [Hfin.out],(by repeat (first | exact Ext.refl _ | with_reducible assumption | with_reducible refine Ext.alloc_of ?_ _ | with_reducible refine Ext.drewN_of ?_ _ | with_reducible refine Ext.drew_of ?_ | (with_reducible refine Ext.set_of ?_ ?hsz _;case hsz=>((first | exact Nat.le_refl _ | omega | (simp;omega)))) | with_reducible refine Ext.via (by assumption) ?_))⟩
  ·obtain ⟨x,hx,hek,hev⟩:∃ x ∈ signs,e.key = .int .i64 x.1 ∧ e.val = .agg #[.string (txt x.2)]:=by
    have hk:(e.key,e.val) ∈ signKV:=by rw [← H4.out];exact List.mem_map.2 ⟨e,(leftOf_mem.1 he).1,rfl⟩
    obtain ⟨x,hx,hee⟩:=List.mem_map.1 hk
    simp only [Prod.mk.injEq] at hee
    exact ⟨x,hx,hee.1.symm,hee.2.symm⟩
   rw [hek,hev] at hrun hen
   have hbW:=ext_cell hxW HB.out
   have Hek:=hid hek
   have Hx:=hid hx
   have hlt:=cell_lt hbW
   have hx32:x.2.length ≤ 3:=by
    have:∀ x ∈ signs,x.2.length ≤ 3:=by decide
    exact this x hx
   clear hek hev hx hit
   obtain ⟨xk,xt⟩:=x
   cases hp:xt.isPrefixOf (bts s) with
   | true =>
    have Hp:=hid hp
    have Hfin:=hid (ask4_yes Hx.out hp)
    clear hp
    go_wp2_with fail
    refine (starts_eq _ _ _ (r:=true) (by rw [bts_txt];exact Hp.out)).mono ?_
    rintro e w' ⟨rfl,rfl⟩
    obtain ⟨c0,c1,c2,f0,f1,f2⟩:=((HR.out.ext hxW).ext (Ext.alloc W (.cells #[.string (txt xt)] 206))).facts3
    have d0:=(RowAt.new W 206 [.string (txt xt)]).facts1.1
    have hxV:=hxW.trans (Ext.alloc W (.cells #[.string (txt xt)] 206))
    go_upto_region 5 with fail
    generalize hv:W.alloc (.cells #[.string (txt xt)] 206) = V at *
    clear hv hen hrun
    have hne:¬ W.heap.size = w.heap.size:=by have:=HR.out.lt;have:=hxW.size;omega
    have hne':¬ w.heap.size = W.heap.size:=fun h=>hne h.symm
    go_region
    all_goals go_wp2
    exact bodyPost_ret (v:=begV (xk,[],xt.length)) (by simp [results,Tryz.results155,go_sem,c0,c1,c2,begV,tokV,txt,ByteArray.size]) rfl ⟨by rw [Hfin.out],(by repeat (first | exact Ext.refl _ | with_reducible assumption | with_reducible refine Ext.alloc_of ?_ _ | with_reducible refine Ext.drewN_of ?_ _ | with_reducible refine Ext.drew_of ?_ | (with_reducible refine Ext.set_of ?_ ?hsz _;case hsz=>((first | exact Nat.le_refl _ | omega | (simp;omega)))) | with_reducible refine Ext.via (by assumption) ?_))⟩
   | false =>
    have Hp:=hid hp
    clear hp
    go_wp2_with fail
    refine (starts_eq _ _ _ (r:=false) (by rw [bts_txt];exact Hp.out)).mono ?_
    rintro e w' ⟨rfl,rfl⟩
    go_wp2_with fail
    go_roundg ((leftOf es (seen.push e.born)).size)
    case measure=>have:=Hg.out;have:=leftOf_push he;omega
    case rel =>
     refine ⟨_,rfl,hxW.trans (Ext.alloc _ _),(Go.heap_alloc_old _ _ (Array.getElem?_eq_some_iff.1 hIW).1).trans hIW,fun e' he' hin y hy hk=>?_⟩
     have he'':=leftOf_mem.1 he
     rcases Array.mem_push.1 hin with hin | hin
     ·exact Hno.out e' he' hin y hy hk
     ·have:e' = e:=born_inj h2 he' he''.1 hin
      subst this
      rw [Hek.out] at hk
      have hy1:y.1 = xk:=by simpa using hk.symm
      have hyx:y = (xk,xt):=by
       have hf:∀ y ∈ signs,∀ x ∈ signs,y.1 = x.1 → y = x:=by decide
       exact hf y hy _ Hx.out hy1
      rw [hyx];exact Hp.out
end

/- What a text begins with. -/
section
open Go.RowKit
theorem begin_any (s:ByteArray) (w:World) (hs:s.size ≤ 9223372036854775807) :
 Calls Tryz.prog 138 #[.string s] w fun e w'=>e = .returned (begV (begL (bts s))) ∧ Ext w w':=by
 go_enter Tryz.func138,Tryz.ntmps138
 go_upto_region 2 with fail
 have hbw:∀ (o1 o2 o3:Obj),o1 = (.cells #[.string s] 9) → (((w.alloc o1).alloc o2).alloc o3).cell? ⟨w.heap.size,0,none⟩ = some (.string s):=fun o1 o2 o3 h=>by
  subst h
  exact ext_cell (Ext.alloc _ _) (ext_cell (Ext.alloc _ _) ((RowAt.new w 9 [.string s]).facts1.1))
 have hrw:∀ (o1 o3:Obj),RowAt (((w.alloc o1).alloc (.cells #[.int .i64 0,.string ⟨#[]⟩,.int .i64 0] 185)).alloc o3) (w.heap.size + 1) 185 [.int .i64 0,.string ⟨#[]⟩,.int .i64 0]:=fun o1 o3 =>
  (row_at (by simp)).ext (Ext.alloc _ _)
 have HB0:=fun o2 o3=>hbw _ o2 o3 rfl
 have i0:∀ w',(Instr.index 213 (.agg #[.func (.func 147) #[] #[.pointer (some ⟨w.heap.size,0,none⟩)],.func (.func 149) #[] #[.pointer (some ⟨w.heap.size,0,none⟩)],.func (.func 151) #[] #[.pointer (some ⟨w.heap.size,0,none⟩)],.func (.func 155) #[] #[.pointer (some ⟨w.heap.size,0,none⟩)]]) (.int .i64 0)).run Tryz.prog w' = .ok (.func (.func 147) #[] #[.pointer (some ⟨w.heap.size,0,none⟩)]) w':=fun _=>by kernel_rfl
 have i1:∀ w',(Instr.index 213 (.agg #[.func (.func 147) #[] #[.pointer (some ⟨w.heap.size,0,none⟩)],.func (.func 149) #[] #[.pointer (some ⟨w.heap.size,0,none⟩)],.func (.func 151) #[] #[.pointer (some ⟨w.heap.size,0,none⟩)],.func (.func 155) #[] #[.pointer (some ⟨w.heap.size,0,none⟩)]]) (.int .i64 1)).run Tryz.prog w' = .ok (.func (.func 149) #[] #[.pointer (some ⟨w.heap.size,0,none⟩)]) w':=fun _=>by kernel_rfl
 have i2:∀ w',(Instr.index 213 (.agg #[.func (.func 147) #[] #[.pointer (some ⟨w.heap.size,0,none⟩)],.func (.func 149) #[] #[.pointer (some ⟨w.heap.size,0,none⟩)],.func (.func 151) #[] #[.pointer (some ⟨w.heap.size,0,none⟩)],.func (.func 155) #[] #[.pointer (some ⟨w.heap.size,0,none⟩)]]) (.int .i64 2)).run Tryz.prog w' = .ok (.func (.func 151) #[] #[.pointer (some ⟨w.heap.size,0,none⟩)]) w':=fun _=>by kernel_rfl
 have i3:∀ w',(Instr.index 213 (.agg #[.func (.func 147) #[] #[.pointer (some ⟨w.heap.size,0,none⟩)],.func (.func 149) #[] #[.pointer (some ⟨w.heap.size,0,none⟩)],.func (.func 151) #[] #[.pointer (some ⟨w.heap.size,0,none⟩)],.func (.func 155) #[] #[.pointer (some ⟨w.heap.size,0,none⟩)]]) (.int .i64 3)).run Tryz.prog w' = .ok (.func (.func 155) #[] #[.pointer (some ⟨w.heap.size,0,none⟩)]) w':=fun _=>by kernel_rfl
 go_wp2_with fail
 have hR:=hrw (.cells #[.string s] 9) (.cells #[.func (.func 147) #[] #[.pointer (some ⟨w.heap.size,0,none⟩)],.func (.func 149) #[] #[.pointer (some ⟨w.heap.size,0,none⟩)],.func (.func 151) #[] #[.pointer (some ⟨w.heap.size,0,none⟩)],.func (.func 155) #[] #[.pointer (some ⟨w.heap.size,0,none⟩)]] 213)
 have hB:=HB0 (.cells #[.int .i64 0,.string ⟨#[]⟩,.int .i64 0] 185) (.cells #[.func (.func 147) #[] #[.pointer (some ⟨w.heap.size,0,none⟩)],.func (.func 149) #[] #[.pointer (some ⟨w.heap.size,0,none⟩)],.func (.func 151) #[] #[.pointer (some ⟨w.heap.size,0,none⟩)],.func (.func 155) #[] #[.pointer (some ⟨w.heap.size,0,none⟩)]] 213)
 have hx0:Ext w (((w.alloc (.cells #[.string s] 9)).alloc (.cells #[.int .i64 0,.string ⟨#[]⟩,.int .i64 0] 185)).alloc (.cells #[.func (.func 147) #[] #[.pointer (some ⟨w.heap.size,0,none⟩)],.func (.func 149) #[] #[.pointer (some ⟨w.heap.size,0,none⟩)],.func (.func 151) #[] #[.pointer (some ⟨w.heap.size,0,none⟩)],.func (.func 155) #[] #[.pointer (some ⟨w.heap.size,0,none⟩)]] 213)):=((Ext.alloc _ _).trans (Ext.alloc _ _)).trans (Ext.alloc _ _)
 generalize (((w.alloc (.cells #[.string s] 9)).alloc (.cells #[.int .i64 0,.string ⟨#[]⟩,.int .i64 0] 185)).alloc (.cells #[.func (.func 147) #[] #[.pointer (some ⟨w.heap.size,0,none⟩)],.func (.func 149) #[] #[.pointer (some ⟨w.heap.size,0,none⟩)],.func (.func 151) #[] #[.pointer (some ⟨w.heap.size,0,none⟩)],.func (.func 155) #[] #[.pointer (some ⟨w.heap.size,0,none⟩)]] 213)) = w3 at *
 clear hbw hrw HB0
 have HR:=hid hR
 have HB:=hid hB
 clear hR hB
 go_loopg [15] 5 (fun g i wr=>Ext w3 wr ∧ ((g = 5 ∧ i = .int .i64 0) ∨ (g = 4 ∧ i = .int .i64 1 ∧ ¬ 0 < (ask1 (bts s)).2.2) ∨ (g = 3 ∧ i = .int .i64 2 ∧ ¬ 0 < (ask1 (bts s)).2.2 ∧ ¬ 0 < (ask2 (bts s)).2.2) ∨ (g = 2 ∧ i = .int .i64 3 ∧ ¬ 0 < (ask1 (bts s)).2.2 ∧ ¬ 0 < (ask2 (bts s)).2.2 ∧ ¬ 0 < (ask3 (bts s)).2.2) ∨ (g = 1 ∧ i = .int .i64 4 ∧ ¬ 0 < (ask1 (bts s)).2.2 ∧ ¬ 0 < (ask2 (bts s)).2.2 ∧ ¬ 0 < (ask3 (bts s)).2.2 ∧ ¬ 0 < (ask4 (bts s)).2.2)))
 case atStart=>exact ⟨Ext.refl _,.inl ⟨rfl,rfl⟩⟩
 case round =>
  obtain ⟨hxr,hrel⟩:=hrel
  rcases hrel with ⟨rfl,rfl⟩ | ⟨rfl,rfl,n1⟩ | ⟨rfl,rfl,n1,n2⟩ | ⟨rfl,rfl,n1,n2,n3⟩ | ⟨rfl,rfl,n1,n2,n3,n4⟩
  ·have N:=hid (True.intro)
   try clear n1
   try clear n2
   try clear n3
   go_wp2_with fail
   refine (ask1_any s _ _ hs (ext_cell hxr HB.out)).mono ?_
   rintro e w4 ⟨rfl,hx4⟩
   by_cases h:0 < (ask1 (bts s)).2.2
   ·have HF:Hid (begL (bts s) = ask1 (bts s)):=hid (begL_1 h)
    unfold begV tokV
    generalize ask1 (bts s) = r at h HF
    obtain ⟨rk,rt,rn⟩:=r
    obtain ⟨c0,c1,c2,f0,f1,f2⟩:=((HR.out.ext hxr).ext hx4).facts3
    have hlt4:=((HR.out.ext hxr).ext hx4).lt
    dsimp only at h ⊢
    clear N
    go_wp2_with fail
    exact bodyPost_ret (v:=begV (rk,rt,rn)) (by simp [results,Tryz.results138,go_sem,c0,c1,c2,hlt4,begV,tokV]) rfl ⟨by rw [HF.out],(by repeat (first | exact Ext.refl _ | with_reducible assumption | with_reducible refine Ext.alloc_of ?_ _ | with_reducible refine Ext.drewN_of ?_ _ | with_reducible refine Ext.drew_of ?_ | (with_reducible refine Ext.set_of ?_ ?hsz _;case hsz=>((first | exact Nat.le_refl _ | omega | (simp;omega)))) | with_reducible refine Ext.via (by assumption) ?_))⟩
   ·have HH:Hid (¬ 0 < (ask1 (bts s)).2.2):=hid h
    have h0:(ask1 (bts s)).2.2 = 0:=by omega
    unfold begV tokV
    rw [h0]
    generalize (ask1 (bts s)).1 = rk
    generalize (ask1 (bts s)).2.1 = rt
    clear h h0
    go_wp2_with fail
    have h:=HH.out
    go_roundg 4
    case measure=>omega
    case rel=>exact ⟨(by repeat (first | exact Ext.refl _ | with_reducible assumption | with_reducible refine Ext.alloc_of ?_ _ | with_reducible refine Ext.drewN_of ?_ _ | with_reducible refine Ext.drew_of ?_ | (with_reducible refine Ext.set_of ?_ ?hsz _;case hsz=>((first | exact Nat.le_refl _ | omega | (simp;omega)))) | with_reducible refine Ext.via (by assumption) ?_)),.inr (.inl ⟨rfl,rfl,h⟩)⟩
  ·have N:=hid n1
   try clear n1
   try clear n2
   try clear n3
   go_wp2_with fail
   refine (ask2_any s _ _ hs (ext_cell hxr HB.out)).mono ?_
   rintro e w4 ⟨rfl,hx4⟩
   by_cases h:0 < (ask2 (bts s)).2.2
   ·have HF:Hid (begL (bts s) = ask2 (bts s)):=hid (begL_2 N.out h)
    unfold begV tokV
    generalize ask2 (bts s) = r at h HF
    obtain ⟨rk,rt,rn⟩:=r
    obtain ⟨c0,c1,c2,f0,f1,f2⟩:=((HR.out.ext hxr).ext hx4).facts3
    have hlt4:=((HR.out.ext hxr).ext hx4).lt
    dsimp only at h ⊢
    clear N
    go_wp2_with fail
    exact bodyPost_ret (v:=begV (rk,rt,rn)) (by simp [results,Tryz.results138,go_sem,c0,c1,c2,hlt4,begV,tokV]) rfl ⟨by rw [HF.out],(by repeat (first | exact Ext.refl _ | with_reducible assumption | with_reducible refine Ext.alloc_of ?_ _ | with_reducible refine Ext.drewN_of ?_ _ | with_reducible refine Ext.drew_of ?_ | (with_reducible refine Ext.set_of ?_ ?hsz _;case hsz=>((first | exact Nat.le_refl _ | omega | (simp;omega)))) | with_reducible refine Ext.via (by assumption) ?_))⟩
   ·have HH:Hid (¬ 0 < (ask2 (bts s)).2.2):=hid h
    have h0:(ask2 (bts s)).2.2 = 0:=by omega
    unfold begV tokV
    rw [h0]
    generalize (ask2 (bts s)).1 = rk
    generalize (ask2 (bts s)).2.1 = rt
    clear h h0
    go_wp2_with fail
    have h:=HH.out
    go_roundg 3
    case measure=>omega
    case rel=>exact ⟨(by repeat (first | exact Ext.refl _ | with_reducible assumption | with_reducible refine Ext.alloc_of ?_ _ | with_reducible refine Ext.drewN_of ?_ _ | with_reducible refine Ext.drew_of ?_ | (with_reducible refine Ext.set_of ?_ ?hsz _;case hsz=>((first | exact Nat.le_refl _ | omega | (simp;omega)))) | with_reducible refine Ext.via (by assumption) ?_)),.inr (.inr (.inl ⟨rfl,rfl,N.out,h⟩))⟩
  ·have N:=hid (And.intro n1 n2)
   try clear n1
   try clear n2
   try clear n3
   go_wp2_with fail
   refine (ask3_any s _ _ hs (ext_cell hxr HB.out)).mono ?_
   rintro e w4 ⟨rfl,hx4⟩
   by_cases h:0 < (ask3 (bts s)).2.2
   ·have HF:Hid (begL (bts s) = ask3 (bts s)):=hid (begL_3 N.out.1 N.out.2 h)
    unfold begV tokV
    generalize ask3 (bts s) = r at h HF
    obtain ⟨rk,rt,rn⟩:=r
    obtain ⟨c0,c1,c2,f0,f1,f2⟩:=((HR.out.ext hxr).ext hx4).facts3
    have hlt4:=((HR.out.ext hxr).ext hx4).lt
    dsimp only at h ⊢
    clear N
    go_wp2_with fail
    exact bodyPost_ret (v:=begV (rk,rt,rn)) (by simp [results,Tryz.results138,go_sem,c0,c1,c2,hlt4,begV,tokV]) rfl ⟨by rw [HF.out],(by repeat (first | exact Ext.refl _ | with_reducible assumption | with_reducible refine Ext.alloc_of ?_ _ | with_reducible refine Ext.drewN_of ?_ _ | with_reducible refine Ext.drew_of ?_ | (with_reducible refine Ext.set_of ?_ ?hsz _;case hsz=>((first | exact Nat.le_refl _ | omega | (simp;omega)))) | with_reducible refine Ext.via (by assumption) ?_))⟩
   ·have HH:Hid (¬ 0 < (ask3 (bts s)).2.2):=hid h
    have h0:(ask3 (bts s)).2.2 = 0:=by omega
    unfold begV tokV
    rw [h0]
    generalize (ask3 (bts s)).1 = rk
    generalize (ask3 (bts s)).2.1 = rt
    clear h h0
    go_wp2_with fail
    have h:=HH.out
    go_roundg 2
    case measure=>omega
    case rel=>exact ⟨(by repeat (first | exact Ext.refl _ | with_reducible assumption | with_reducible refine Ext.alloc_of ?_ _ | with_reducible refine Ext.drewN_of ?_ _ | with_reducible refine Ext.drew_of ?_ | (with_reducible refine Ext.set_of ?_ ?hsz _;case hsz=>((first | exact Nat.le_refl _ | omega | (simp;omega)))) | with_reducible refine Ext.via (by assumption) ?_)),.inr (.inr (.inr (.inl ⟨rfl,rfl,N.out.1,N.out.2,h⟩)))⟩
  ·have N:=hid (And.intro n1 (And.intro n2 n3))
   try clear n1
   try clear n2
   try clear n3
   go_wp2_with fail
   refine (ask4_any s _ _ hs (ext_cell hxr HB.out)).mono ?_
   rintro e w4 ⟨rfl,hx4⟩
   by_cases h:0 < (ask4 (bts s)).2.2
   ·have HF:Hid (begL (bts s) = ask4 (bts s)):=hid (begL_4 N.out.1 N.out.2.1 N.out.2.2)
    unfold begV tokV
    generalize ask4 (bts s) = r at h HF
    obtain ⟨rk,rt,rn⟩:=r
    obtain ⟨c0,c1,c2,f0,f1,f2⟩:=((HR.out.ext hxr).ext hx4).facts3
    have hlt4:=((HR.out.ext hxr).ext hx4).lt
    dsimp only at h ⊢
    clear N
    go_wp2_with fail
    exact bodyPost_ret (v:=begV (rk,rt,rn)) (by simp [results,Tryz.results138,go_sem,c0,c1,c2,hlt4,begV,tokV]) rfl ⟨by rw [HF.out],(by repeat (first | exact Ext.refl _ | with_reducible assumption | with_reducible refine Ext.alloc_of ?_ _ | with_reducible refine Ext.drewN_of ?_ _ | with_reducible refine Ext.drew_of ?_ | (with_reducible refine Ext.set_of ?_ ?hsz _;case hsz=>((first | exact Nat.le_refl _ | omega | (simp;omega)))) | with_reducible refine Ext.via (by assumption) ?_))⟩
   ·have HH:Hid (¬ 0 < (ask4 (bts s)).2.2):=hid h
    have h0:(ask4 (bts s)).2.2 = 0:=by omega
    unfold begV tokV
    rw [h0]
    generalize (ask4 (bts s)).1 = rk
    generalize (ask4 (bts s)).2.1 = rt
    clear h h0
    go_wp2_with fail
    have h:=HH.out
    go_roundg 1
    case measure=>omega
    case rel=>exact ⟨(by repeat (first | exact Ext.refl _ | with_reducible assumption | with_reducible refine Ext.alloc_of ?_ _ | with_reducible refine Ext.drewN_of ?_ _ | with_reducible refine Ext.drew_of ?_ | (with_reducible refine Ext.set_of ?_ ?hsz _;case hsz=>((first | exact Nat.le_refl _ | omega | (simp;omega)))) | with_reducible refine Ext.via (by assumption) ?_)),.inr (.inr (.inr (.inr ⟨rfl,rfl,N.out.1,N.out.2.1,N.out.2.2,h⟩)))⟩
  ·have HF:=hid ((begL_4 n1 n2 n3).trans (ask4_zero n4))
   obtain ⟨c0,c1,c2,f0,f1,f2⟩:=(HR.out.ext hxr).facts3
   clear n1 n2 n3 n4
   go_wp2_with fail
   exact bodyPost_ret (v:=begV begNo) (by simp [results,Tryz.results138,go_sem,c0,c1,c2,begV,tokV,begNo,txt]) rfl ⟨by rw [HF.out],(by repeat (first | exact Ext.refl _ | with_reducible assumption | with_reducible refine Ext.alloc_of ?_ _ | with_reducible refine Ext.drewN_of ?_ _ | with_reducible refine Ext.drew_of ?_ | (with_reducible refine Ext.set_of ?_ ?hsz _;case hsz=>((first | exact Nat.le_refl _ | omega | (simp;omega)))) | with_reducible refine Ext.via (by assumption) ?_))⟩
end

/- What stands for a token; which may be. -/
section
open Go.RowKit
def tkV (t:Tk):Value:=.agg #[.int .i64 t.kind,.string t.text,.int .i64 t.at_]
theorem stands_sign (t:Tk) (w:World) (h1:(t.kind == 1) = false) (h2:(t.kind == 2) = false) (h3:(t.kind == 3) = false) (x:List UInt8)
 (hl:∀ w' b,MapAt (.int .i64) w' b signKV → (Instr.lookup 207 (.map (some b)) (.int .i64 t.kind) false).run Tryz.prog w' = .ok (.agg #[.string (txt x)]) w') :
 Calls Tryz.prog 137 #[tkV t] w fun e w'=>e = .returned (.string (txt x)) ∧ Ext w w':=by
 obtain ⟨tk,tt,ta⟩:=t
 unfold tkV
 dsimp only at *
 have Hl:=hid hl
 clear hl
 have hr:=RowAt.new w 185 [.int .i64 tk,.string tt,.int .i64 ta]
 go_enter Tryz.func137,Tryz.ntmps137
 go_upto_region 8 with fail
 have hx0:=Ext.alloc w (.cells #[.int .i64 tk,.string tt,.int .i64 ta] 185)
 generalize w.alloc (.cells #[.int .i64 tk,.string tt,.int .i64 ta] 185) = w1 at *
 obtain ⟨c0,c1,c2,f0,f1,f2⟩:=hr.facts3
 have HR:=hid hr
 clear hr
 have hfd:∀ w',(Instr.field 206 (.agg #[.string (txt x)]) 0).run Tryz.prog w' = .ok (.string (txt x)) w':=fun _=>by kernel_rfl
 go_region_with (go_at_call 146;refine (signs_any _).mono ?_;rintro e w2 ⟨rfl,hm,hx,hsz⟩;have hm2:MapAt (.int .i64) w2 w1.heap.size signKV:=hm;have hlk:=Hl.out _ _ hm2;have hx1:Ext w1 w2:=Ext.trans (by first | exact Ext.refl _ | exact Ext.drewN w1 1) hx;have d0:=ext_cell hx1 c0;clear hsz hm hm2)
 all_goals go_wp2
 all_goals exact bodyPost_ret (v:=.string (txt x)) (by simp [results,Tryz.results137,go_sem,Act.put]) rfl ⟨rfl,(by repeat (first | exact Ext.refl _ | with_reducible assumption | with_reducible refine Ext.alloc_of ?_ _ | with_reducible refine Ext.drewN_of ?_ _ | with_reducible refine Ext.drew_of ?_ | (with_reducible refine Ext.set_of ?_ ?hsz _;case hsz=>((first | exact Nat.le_refl _ | omega | (simp;omega)))) | with_reducible refine Ext.via (by assumption) ?_))⟩
theorem sign_at {k:Int} {x:List UInt8} (h:(k,x) ∈ signs):∃ j:Nat,signKV[j]? = some (.int .i64 k,.agg #[.string (txt x)]):=by
 have hk:(Value.int .i64 k,Value.agg #[.string (txt x)]) ∈ signKV:=List.mem_map.2 ⟨(k,x),h,rfl⟩
 obtain ⟨j,hj,e⟩:=List.getElem_of_mem hk
 exact ⟨j,by rw [List.getElem?_eq_getElem hj,e]⟩
theorem sign_not {k:Int} (h:∀ x ∈ signs,x.1 ≠ k):∀ p ∈ signKV,p.1 ≠ .int .i64 k:=fun p hp e=>by
 obtain ⟨x,hx,rfl⟩:=List.mem_map.1 hp
 exact h x hx (by simpa using e)
theorem stands_any (t:Tk) (w:World) (hs:t.text.size ≤ 9223372036854775800) :
 Calls Tryz.prog 137 #[tkV t] w fun e w'=>e = .returned (.string (txt t.stands)) ∧ Ext w w':=by
 by_cases h1:t.kind = 1
 ·obtain ⟨tk,tt,ta⟩:=t
  obtain rfl:tk = 1:=h1
  unfold tkV Tk.stands
  dsimp only at *
  go_enter Tryz.func137,Tryz.ntmps137
  go_wp2
  go_ret
  exact ⟨by simp [standsL,txt_bts],(by repeat (first | exact Ext.refl _ | with_reducible assumption | with_reducible refine Ext.alloc_of ?_ _ | with_reducible refine Ext.drewN_of ?_ _ | with_reducible refine Ext.drew_of ?_ | (with_reducible refine Ext.set_of ?_ ?hsz _;case hsz=>((first | exact Nat.le_refl _ | omega | (simp;omega)))) | with_reducible refine Ext.via (by assumption) ?_))⟩
 by_cases h2:t.kind = 2
 ·obtain ⟨tk,tt,ta⟩:=t
  obtain rfl:tk = 2:=h2
  unfold tkV Tk.stands
  dsimp only at *
  go_enter Tryz.func137,Tryz.ntmps137
  go_wp2
  go_ret
  exact ⟨by
   have e:txt (standsL 2 (bts tt)) = (⟨#[64]⟩:ByteArray) ++ tt:=bts_inj (by rw [bts_txt,bts_append];rfl)
   rw [e];rfl,(by repeat (first | exact Ext.refl _ | with_reducible assumption | with_reducible refine Ext.alloc_of ?_ _ | with_reducible refine Ext.drewN_of ?_ _ | with_reducible refine Ext.drew_of ?_ | (with_reducible refine Ext.set_of ?_ ?hsz _;case hsz=>((first | exact Nat.le_refl _ | omega | (simp;omega)))) | with_reducible refine Ext.via (by assumption) ?_))⟩
 by_cases h3:t.kind = 3
 ·obtain ⟨tk,tt,ta⟩:=t
  obtain rfl:tk = 3:=h3
  unfold tkV Tk.stands
  dsimp only at *
  go_enter Tryz.func137,Tryz.ntmps137
  go_wp2
  go_ret
  exact ⟨by
   have e:txt (standsL 3 (bts tt)) = (⟨#[34]⟩:ByteArray) ++ tt ++ ⟨#[34]⟩:=bts_inj (by rw [bts_txt,bts_append,bts_append];rfl)
   rw [e];rfl,(by repeat (first | exact Ext.refl _ | with_reducible assumption | with_reducible refine Ext.alloc_of ?_ _ | with_reducible refine Ext.drewN_of ?_ _ | with_reducible refine Ext.drew_of ?_ | (with_reducible refine Ext.set_of ?_ ?hsz _;case hsz=>((first | exact Nat.le_refl _ | omega | (simp;omega)))) | with_reducible refine Ext.via (by assumption) ?_))⟩
 have hf:∀ {x:Int},t.kind ≠ x → (t.kind == x) = false:=fun h=>by simpa using h
 by_cases hx:∃ x,(t.kind,x) ∈ signs
 ·obtain ⟨x,hx⟩:=hx
  obtain ⟨j,hj⟩:=sign_at hx
  unfold Tk.stands
  rw [standsL_sign hx]
  exact stands_sign t w (hf h1) (hf h2) (hf h3) x (fun w' b hm=>run_get_yes Tryz.underlying207 Tryz.underlying3 hm (isKey_i64 _) hj false)
 ·have hn:∀ x ∈ signs,x.1 ≠ t.kind:=fun x hm e=>hx ⟨x.2,by rw [← e];exact hm⟩
  unfold Tk.stands
  rw [standsL_none h1 h2 h3 hn]
  exact stands_sign t w (hf h1) (hf h2) (hf h3) [] (fun w' b hm=>run_get_no Tryz.underlying207 Tryz.underlying3 hm (isKey_i64 _) (sign_not hn) (by kernel_rfl) false)
end

/- Rows of structs in memory. -/
section
open Go.RowKit Go.ChangeShapes Go.WideShapes Go.Deep
theorem flatMap_at {α:Type} (f:α → List Value) (m:Nat) (hf:∀ x,(f x).length = m) (l:List α) (k i:Nat) (hk:k < l.length) (hi:i < m):(l.flatMap f)[k * m + i]? = (f l[k])[i]?:=by
 induction l generalizing k with
 | nil=>simp at hk
 | cons x l ih =>
  rw [List.flatMap_cons]
  cases k with
  | zero=>rw [List.getElem?_append_left (by rw [hf];omega)];simp
  | succ k =>
   rw [List.getElem?_append_right (by rw [hf,Nat.add_mul];omega),hf,show (k + 1) * m + i - m = k * m + i from by rw [Nat.add_mul];omega]
   rw [ih k (by simpa using hk)]
   simp
theorem flatMap_len {α:Type} (f:α → List Value) (m:Nat) (hf:∀ x,(f x).length = m) (l:List α):(l.flatMap f).length = l.length * m:=by
 induction l with
 | nil=>simp
 | cons x l ih=>rw [List.flatMap_cons,List.length_append,hf,ih,List.length_cons,Nat.add_mul];omega
section
variable {H:Type} {enc:TypeId × Value → H} {P:Program} {w:World} {base:Nat} {spare:Nat → Bool} {held:Bool}
end
theorem choose_row {α:Type} (n:Nat) (Q:Nat → α → Prop) (h:∀ i,i < n → ∃ x,Q i x):∃ xs:List α,xs.length = n ∧ ∀ i (hi:i < xs.length),Q i xs[i]:=by
 induction n with
 | zero=>exact ⟨[],rfl,fun i hi=>by simp at hi⟩
 | succ n ih =>
  obtain ⟨xs,h1,h2⟩:=ih (fun i hi=>h i (by omega))
  obtain ⟨x,hx⟩:=h n (by omega)
  refine ⟨xs ++ [x],by simp [h1],fun i hi=>?_⟩
  by_cases hin:i < xs.length
  ·rw [List.getElem_append_left hin];exact h2 i hin
  ·have:i = n:=by simp at hi;omega
   subst this
   rw [List.getElem_append_right (by omega)];simpa [h1] using hx
theorem sl_of_rows {α:Type} {w:World} {x:Addr} {len cap m:Nat} (f:α → List Value) (hf:∀ y,(f y).length = m) (hm0:0 < m) (hl:len ≤ cap) (hc:cap ≤ maxLen) (xs:List α) (hx:xs.length = len)
 (h:∀ i (hi:i < xs.length) j v,(f xs[i])[j]? = some v → w.cell? (x.add (i * m + j)) = some v):Sl w (.slice (some x) len cap) len (xs.flatMap f):=by
 refine ⟨_,cap,rfl,hl,hc,fun hp=>?_⟩
 have hlen:=flatMap_len f m hf xs
 have hx0:0 < xs.length:=by
  rcases Nat.eq_zero_or_pos xs.length with h0 | h0
  ·rw [hlen,h0] at hp;simp at hp
  ·exact h0
 obtain ⟨b,o,spot⟩:=x
 have hs:spot = none:=by
  have h00:(f xs[0])[0]? = some ((f xs[0])[0]'(by rw [hf];exact hm0)):=List.getElem?_eq_getElem _
  have:=h 0 hx0 0 _ h00
  simpa [Addr.add] using World.cell?_spot this
 subst hs
 refine ⟨b,o,rfl,fun i u hu=>?_⟩
 have hi:i < xs.length * m:=by rw [← hlen];exact (List.getElem?_eq_some_iff.1 hu).1
 have hk:i / m < xs.length:=Nat.div_lt_of_lt_mul (by rw [Nat.mul_comm];exact hi)
 have hr:i % m < m:=Nat.mod_lt _ hm0
 have hdm:i = i / m * m + i % m:=by rw [Nat.mul_comm];exact (Nat.div_add_mod i m).symm
 have hat:=flatMap_at f m hf xs (i / m) (i % m) hk hr
 rw [← hdm] at hat
 have:=h _ hk (i % m) u (by rw [← hat];exact hu)
 rw [addr_add,← hdm] at this
 exact this
end

/- Rows of tokens in memory. -/
section
open Go.RowKit Go.ChangeShapes Go.WideShapes Go.Deep
end

end Go.Proofs.YtkmbnghghbfkdaaGreat
