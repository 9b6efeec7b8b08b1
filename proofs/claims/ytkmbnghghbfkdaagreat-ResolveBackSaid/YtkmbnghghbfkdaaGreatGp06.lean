/- Find and Text; the document's Find, stands, Right. -/
import Derived.Test.YtkmbnghghbfkdaaGreatGp05
import Derived.Test.YtkmbnghghbfkdaaGreatGp01
import Derived.Deep.RegionWith
set_option linter.unusedSimpArgs false
set_option linter.unusedVariables false
set_option maxHeartbeats 2000000
set_option maxRecDepth 100000
namespace Go.Proofs.YtkmbnghghbfkdaaGreat
open Go.Lib (hid)

section
open Go.RowKit Go.Shelf Go.Sort
theorem tcheck_yes {T:List ByteArray} {S:List Int} {a:Option Addr} {n c:Nat} {b:Option Addr} {m d:Nat} {w:World} (hT:Strs w (.slice a n c) T) (hS:Ints w .i64 (.slice b m d) S)
 (hm:m ≤ 1048576) (hTs:∀ s ∈ T,s.size ≤ 9223372036854775807) (h:TabOK T S):Calls Tryz.prog 78 #[.agg #[.slice a n c,.slice b m d]] w fun e w'=>e = .returned (.int .i64 0) ∧ Ext w w' :=
 (tcheck_any T S a n c b m d w hT hS hm hTs).mono fun e w' ⟨r,he,_,h2,hx⟩=>⟨by rw [he,h2.2 h],hx⟩
theorem tcheck_no {T:List ByteArray} {S:List Int} {a:Option Addr} {n c:Nat} {b:Option Addr} {m d:Nat} {w:World} (hT:Strs w (.slice a n c) T) (hS:Ints w .i64 (.slice b m d) S)
 (hm:m ≤ 1048576) (hTs:∀ s ∈ T,s.size ≤ 9223372036854775807) (h:¬ TabOK T S):Calls Tryz.prog 78 #[.agg #[.slice a n c,.slice b m d]] w fun e w'=>e = .returned (.int .i64 150) ∧ Ext w w' :=
 (tcheck_any T S a n c b m d w hT hS hm hTs).mono fun e w' ⟨r,he,h1,h2,hx⟩=>⟨by rw [he];rcases h1 with rfl | rfl;exact absurd (h2.1 rfl) h;rfl,hx⟩
theorem refFind_any (T:List ByteArray) (s:ByteArray) (v:Value) (w:World) (hT:Strs w v T) :
 Calls Tryz.prog 74 #[v,.string s] w fun e w'=>e = .returned (.int .i64 (findF T s)) ∧ w = w':=by
 obtain ⟨a,c,rfl,hc1,hc2⟩:=Sl.shape hT
 go_enter Tryz.func74,Tryz.ntmps74
 go_wp2
 go_loopg [9] T.length (fun g i wr=>∃ k:Nat,k ≤ T.length ∧ g = T.length - k ∧ i = .int .i64 k ∧ (∀ j (h:j < T.length),j < k → T[j] ≠ s) ∧ w = wr)
 case atStart=>exact ⟨0,Nat.zero_le _,rfl,rfl,fun j _ h=>by omega,rfl⟩
 case round =>
  obtain ⟨k,hk,hg,rfl,hall,rfl⟩:=hrel
  have Hall:=hid hall
  have Hg:=hid hg
  clear hall hg
  by_cases hlt:k < T.length
  ·obtain ⟨tb,tO,rfl,htk⟩:=hT.atD hlt
   rw [getD_at hlt] at htk
   generalize hx:T[k] = x at htk
   have Hx:=hid hx
   clear hx
   by_cases hxs:x = s
   ·have hb:=str_yes hxs
    have Hxs:=hid hxs
    clear hxs
    go_wp2
    go_ret
    exact ⟨ret_int (findF_yes.2 ⟨hlt,by rw [Hx.out,Hxs.out],fun j hj=>Hall.out j (by omega) hj⟩).symm,rfl⟩
   ·have hb:=str_no hxs
    have Hxs:=hid hxs
    clear hxs
    go_wp2
    go_roundg (T.length - (k + 1))
    case measure=>have:=Hg.out;omega
    case rel =>
     refine ⟨k + 1,by omega,rfl,by go_num,fun j hj hjk=>?_,rfl⟩
     rcases Nat.lt_or_ge j k with h | h
     ·exact Hall.out j hj h
     ·obtain rfl:j = k:=by omega
      rw [Hx.out];exact Hxs.out
  ·go_wp2
   go_ret
   refine ⟨ret_int (findF_no.2 fun hm=>?_).symm,rfl⟩
   obtain ⟨j,hj,he⟩:=List.getElem_of_mem hm
   exact Hall.out j hj (by omega) he
set_option maxHeartbeats 1000000 in
theorem tstands_any (T:List ByteArray) (S:List Int) (a:Option Addr) (n c:Nat) (b:Option Addr) (m d:Nat) (q:Nat) (w:World) (hT:Strs w (.slice a n c) T) (hS:Ints w .i64 (.slice b m d) S)
 (hm:m ≤ 1048576) (hm0:0 < m) (hTs:∀ s ∈ T,s.size ≤ 9223372036854775807) (hq:q < T.length):Calls Tryz.prog 75 #[.agg #[.slice a n c,.slice b m d],.int .i64 q] w fun e w'=>e = .returned (.bool (standsF T S T[q] q)) ∧ Ext w w':=by
 have hn:n ≤ 9223372036854775807:=by obtain ⟨_,_,e,h1,h2⟩:=Sl.shape hT;simp only [Value.slice.injEq] at e;omega
 have hlen:=hid hS.len
 have hqn:q < n:=by rw [← hT.len];exact hq
 have hss:=hTs _ (List.getElem_mem hq)
 generalize hsq:T[q] = s at hss
 have hm1:0 < (m:Int):=by omega
 have hH:(hashN s:Int) = hashL 14695981039346656037 (sbt s):=by have:=hashL_range 14695981039346656037 (sbt s) (by omega) (by omega);unfold hashN;omega
 have hp0:((hashN s:Int) % (m:Int)) = ((probe m s 0:Nat):Int):=by unfold probe;simp
 have hps:∀ k,(probe m s k + 1) % m = probe m s (k + 1):=fun k=>by unfold probe;rw [Nat.mod_add_mod];rfl
 have Hps:=hid hps
 have HH:=hid hH
 have Hsq:=hid hsq
 have Hp0:=hid hp0
 clear hTs hps hH hsq hp0
 go_enter Tryz.func75,Tryz.ntmps75
 go_upto_region 1 with fail
 have hx1:Ext w (w.alloc (.cells #[.slice a n c,.slice b m d] 25)):=Ext.alloc _ _
 have b0:(w.alloc (.cells #[.slice a n c,.slice b m d] 25)).cell? ⟨w.heap.size,0,none⟩ = some (.slice a n c):=by simp [go_sem]
 have b1:(w.alloc (.cells #[.slice a n c,.slice b m d] 25)).cell? ⟨w.heap.size,1,none⟩ = some (.slice b m d):=by simp [go_sem]
 have hT1:=hT.ext hx1
 have hS1:=hS.ext hx1
 generalize (w.alloc (.cells #[.slice a n c,.slice b m d] 25)) = w1 at *
 clear hT hS
 obtain ⟨tb,tO,rfl,htk⟩:=hT1.atD hq
 rw [getD_at hq,Hsq.out] at htk
 have HS:=hid hS1
 clear hT1 hS1
 go_wp2_with fail
 refine (refHash_any s _ hss).mono ?_
 rintro e w2 ⟨rfl,n1,rfl⟩
 rw [← HH.out]
 have hp0:=Hp0.out
 have hxd:=Ext.drewN w1 n1
 have hx2:=hx1.trans hxd
 have HS2:=hid (HS.out.ext hxd)
 have b0:=ext_cell hxd b0
 have b1:=ext_cell hxd b1
 generalize w1.drewN n1 = w2 at *
 clear hss htk hx1 hxd HS
 have hH0:0 ≤ (hashN s:Int):=by omega
 generalize (hashN s:Int) = H at hp0 hH0
 have hpl0:probe m s 0 < m:=probe_lt m s 0 hm0
 go_wp2_with fail
 go_loopg [6,7,22] m (fun g s6 s7 i wr=>∃ (k:Nat) (f:Bool),k ≤ m ∧ g = m - k ∧ i = .int .i64 k ∧ s6 = .int .i64 (probe m s k) ∧ s7 = .bool f ∧ standsFrom T S s q (m - k) k f = standsF T S s q ∧ wr = w2)
 case atStart=>exact ⟨0,false,Nat.zero_le _,rfl,rfl,rfl,rfl,by unfold standsF;rw [hlen.out];rfl,rfl⟩
 case round =>
  obtain ⟨k,f,hk,hg,rfl,rfl,rfl,hst,rfl⟩:=hrel
  have Hg:=hid hg
  by_cases hlt:k < m
  ·have e1:standsFrom T S s q (m - k) k f = if S.getD (probe S.length s k) 0 = 0 ∧ f = false then false else if S.getD (probe S.length s k) 0 = q + 1 then (if f then false else standsFrom T S s q (m - (k + 1)) (k + 1) true) else standsFrom T S s q (m - (k + 1)) (k + 1) f:=by
    rw [show m - k = (m - (k + 1)) + 1 from by omega];rfl
   rw [e1,hlen.out] at hst
   have hpl:=probe_lt m s k hm0
   have hpn:((probe m s k:Int) + 1) % (m:Int) = (probe m s (k + 1):Nat):=by rw [← Hps.out k];rfl
   obtain ⟨sb,so,rfl,hck⟩:=HS2.out.atD (k:=probe m s k) (by rw [hlen.out];exact hpl)
   generalize S.getD (probe m s k) 0 = x at hck hst
   have Hst:=hid hst
   clear hg hst e1 hp0 hpl0
   by_cases hx0:x = 0
   ·subst hx0
    have hq1:((0:Int) == (q:Int) + 1) = false:=by simp;omega
    cases f with
    | false =>
     go_wp2
     go_ret
     exact ⟨ret_bool (by have h:=Hst.out;simpa using h),hx2⟩
    | true =>
     go_wp2
     go_roundg (m - (k + 1))
     case measure=>have:=Hg.out;omega
     case rel=>exact ⟨k + 1,true,by omega,rfl,by go_num,rfl,rfl,by have h:=Hst.out;have h2:¬ (0:Int) = (q:Int) + 1:=(by omega);simpa [h2] using h,rfl⟩
   ·have hb:(x == 0) = false:=by simpa using hx0
    have Hx0:=hid hx0
    clear hx0
    by_cases hxq:x = (q:Int) + 1
    ·have hq1:(x == (q:Int) + 1) = true:=by simpa using hxq
     have Hxq:=hid hxq
     clear hxq
     cases f with
     | false =>
      go_wp2
      go_roundg (m - (k + 1))
      case measure=>have:=Hg.out;omega
      case rel=>exact ⟨k + 1,true,by omega,rfl,by go_num,rfl,rfl,by have h:=Hst.out;have h1:=Hx0.out;have h2:=Hxq.out;(simp [h1,h2] at h ⊢;try exact h),rfl⟩
     | true =>
      go_wp2
      go_ret
      exact ⟨ret_bool (by have h:=Hst.out;have h2:=Hxq.out;simpa [h2] using h),hx2⟩
    ·have hq1:(x == (q:Int) + 1) = false:=by simpa using hxq
     have Hxq:=hid hxq
     clear hxq
     cases f with
     | false =>
      go_wp2
      go_roundg (m - (k + 1))
      case measure=>have:=Hg.out;omega
      case rel=>exact ⟨k + 1,false,by omega,rfl,by go_num,rfl,rfl,by have h:=Hst.out;have h1:=Hx0.out;have h2:=Hxq.out;simpa [h1,h2] using h,rfl⟩
     | true =>
      go_wp2
      go_roundg (m - (k + 1))
      case measure=>have:=Hg.out;omega
      case rel=>exact ⟨k + 1,true,by omega,rfl,by go_num,rfl,rfl,by have h:=Hst.out;have h2:=Hxq.out;simpa [h2] using h,rfl⟩
  ·rw [show m - k = 0 from by omega,show standsFrom T S s q 0 k f = f from by cases f <;> rfl] at hst
   have Hst:=hid hst
   clear hst hg
   go_wp2
   go_ret
   exact ⟨ret_bool Hst.out,hx2⟩
def SaidB (Q:Prop) (w:World) (e:Ending) (w':World):Prop:=∃ r,e = .returned (.bool r) ∧ (r = true ↔ Q) ∧ Ext w w'
theorem pow_no {m e p:Nat} (hp:p = 8 * 2 ^ e) (h:e = 0 ∨ 8 * 2 ^ (e - 1) < m) (hle:m ≤ p) (hne:m ≠ p):¬ ∃ f,m = 8 * 2 ^ f:=by
 rintro ⟨f,hf⟩
 rcases Nat.lt_trichotomy f e with hfe | rfl | hfe
 ·have:=Nat.pow_le_pow_right (show 0 < 2 by omega) (show f ≤ e - 1 by omega)
  rcases h with h | h <;> omega
 ·omega
 ·have:=Nat.pow_lt_pow_right (show 1 < 2 by omega) hfe
  omega
theorem rangeB_iff (n:Nat) (S:List Int):rangeB n S = true ↔ ∀ x ∈ S,0 ≤ x ∧ x ≤ n:=by
 unfold rangeB;rw [List.all_eq_true];simp
set_option maxHeartbeats 1000000 in
theorem right_any (T:List ByteArray) (S:List Int) (a:Option Addr) (n c:Nat) (b:Option Addr) (m d:Nat) (w:World) (hT:Strs w (.slice a n c) T) (hS:Ints w .i64 (.slice b m d) S)
 (hm:m ≤ 1048576) (hTs:∀ s ∈ T,s.size ≤ 9223372036854775807):Calls Tryz.prog 38 #[.agg #[.slice a n c,.slice b m d]] w (SaidB (RightP T S) w):=by
 have hn:n ≤ 9223372036854775807:=by obtain ⟨_,_,e,h1,h2⟩:=Sl.shape hT;simp only [Value.slice.injEq] at e;omega
 have hlen:=hid hS.len
 have hlenT:=hid hT.len
 go_enter Tryz.func38,Tryz.ntmps38
 go_upto_region 1 with fail
 have hx1:Ext w (w.alloc (.cells #[.slice a n c,.slice b m d] 25)):=Ext.alloc _ _
 have b0:(w.alloc (.cells #[.slice a n c,.slice b m d] 25)).cell? ⟨w.heap.size,0,none⟩ = some (.slice a n c):=by simp [go_sem]
 have b1:(w.alloc (.cells #[.slice a n c,.slice b m d] 25)).cell? ⟨w.heap.size,1,none⟩ = some (.slice b m d):=by simp [go_sem]
 have hT1:=hT.ext hx1
 have hS1:=hS.ext hx1
 generalize (w.alloc (.cells #[.slice a n c,.slice b m d] 25)) = w1 at *
 clear hT hS
 have HS:=hid hS1
 have HT:=hid hT1
 have HTs:=hid hTs
 clear hS1 hT1 hTs
 go_wp2_with fail
 go_loopg [3] (2 * m - 8) (fun g s3 wr=>∃ e p:Nat,8 ≤ p ∧ p = 8 * 2 ^ e ∧ (e = 0 ∨ 8 * 2 ^ (e - 1) < m) ∧ g = 2 * m - p ∧ s3 = .int .i64 p ∧ p ≤ 8 + 2 * m ∧ wr = w1)
 case atStart=>exact ⟨0,8,Nat.le_refl _,rfl,.inl rfl,by omega,rfl,by omega,rfl⟩
 case round =>
  obtain ⟨e,p,hp8,hp,hpm,hg,rfl,hpb,rfl⟩:=hrel
  have Hg:=hid hg
  have Hp:=hid hp
  have Hpm:=hid hpm
  clear hg hp hpm
  by_cases hlt:p < m
  ·go_wp2
   go_roundg (2 * m - 2 * p)
   case measure=>have:=Hg.out;omega
   case rel=>exact ⟨e + 1,2 * p,by omega,by rw [Hp.out,Nat.pow_succ];omega,.inr (by rw [Nat.add_sub_cancel,← Hp.out];exact hlt),rfl,by go_num,by omega,rfl⟩
  ·by_cases hmp:m = p
   ·by_cases hn1:n ≤ 1024
    ·by_cases hn2:2 * n ≤ m
     ·subst hmp
      clear hlt hp8 hpb
      go_wp2_with fail
      go_loopg [37] m (fun g i wr'=>∃ k:Nat,k ≤ m ∧ g = m - k ∧ i = .int .i64 k ∧ rangeB n (S.take k) = true ∧ wr' = wr)
      case atStart=>exact ⟨0,Nat.zero_le _,rfl,rfl,rfl,rfl⟩
      case round =>
       obtain ⟨k,hk,hg,rfl,hrb,rfl⟩:=hrel
       have Hrb:=hid hrb
       have Hg2:=hid hg
       clear hrb hg
       by_cases hlt:k < m
       ·obtain ⟨sb,so,rfl,hck⟩:=HS.out.atD (k:=k) (by rw [hlen.out];exact hlt)
        have hk':=rangeB_snoc n S k (by rw [hlen.out];exact hlt)
        have hmem:S.getD k 0 ∈ S:=getD_mem (by rw [hlen.out];exact hlt)
        generalize S.getD k 0 = x at hck hk' hmem
        rw [Hrb.out] at hk'
        have Hk:=hid hk'
        have Hmem:=hid hmem
        clear hk' hmem
        by_cases h0:0 ≤ x
        ·by_cases h1:x ≤ n
         ·go_wp2
          go_roundg (m - (k + 1))
          case measure=>have:=Hg2.out;omega
          case rel=>exact ⟨k + 1,by omega,rfl,by go_num,by rw [Hk.out];simp [h0,h1],rfl⟩
         ·have hno:¬ RightP T S:=fun h=>h1 (by have:=(h.range x Hmem.out).2;have:=hlenT.out;omega)
          have Hno:=hid hno
          clear hno
          go_wp2
          go_ret
          exact ⟨false,rfl,⟨fun h=>(by cases h),fun h=>absurd h Hno.out⟩,hx1⟩
        ·have hno:¬ RightP T S:=fun h=>h0 (h.range x Hmem.out).1
         have Hno:=hid hno
         clear hno
         go_wp2
         go_ret
         exact ⟨false,rfl,⟨fun h=>(by cases h),fun h=>absurd h Hno.out⟩,hx1⟩
       ·have hrange:∀ x ∈ S,0 ≤ x ∧ x ≤ T.length:=by
         have:=Hrb.out
         rw [List.take_of_length_le (by have:=hlen.out;omega),rangeB_iff] at this
         rw [hlenT.out];exact this
        have Hrange:=hid hrange
        clear hrange
        obtain ⟨w3,hwn⟩:∃ x,x = wr:=⟨_,rfl⟩
        subst hwn
        have hm0:0 < m:=by have:=Hp.out;have:0 < 2 ^ e:=Nat.pow_pos (by omega);omega
        go_wp2_with fail
        go_loopg [54] n (fun g i wx=>∃ j:Nat,j ≤ n ∧ g = n - j ∧ i = .int .i64 j ∧ (∀ x (h:x < T.length),x < j → findF T T[x] = x ∧ standsF T S T[x] x = true) ∧ Ext w3 wx)
        case atStart=>exact ⟨0,Nat.zero_le _,rfl,rfl,fun x h hx=>by omega,Ext.refl _⟩
        case round =>
         obtain ⟨j,hj,hg,rfl,hall,hxr⟩:=hrel
         have Hall:=hid hall
         have Hg3:=hid hg
         clear hall hg
         by_cases hlt2:j < n
         ·have hTr:=HT.out.ext hxr
          have hSr:=HS.out.ext hxr
          have b0:=ext_cell hxr b0
          have b1:=ext_cell hxr b1
          have hjT:j < T.length:=by have:=hlenT.out;omega
          obtain ⟨tb,tO,rfl,htk⟩:=hTr.atD hjT
          rw [getD_at hjT] at htk
          have hst:=tstands_any T S _ n c b m d j wr hTr hSr hm hm0 HTs.out hjT
          have Hall1:=fun h:RightP T S=>h.at_ j hjT
          have hfr:=findF_range T T[j]
          generalize hse:T[j] = s at htk hst Hall1 hfr
          have Hse:=hid hse
          have Hst:=hid hst
          have Hall1:=hid Hall1
          have HTr:=hid hTr
          clear hse hst hTr hSr
          go_wp2_with fail
          refine (refFind_any T s _ _ HTr.out).mono ?_
          rintro e w' ⟨rfl,rfl⟩
          generalize hf:findF T s = f at hfr
          have Hf:=hid hf
          clear hf
          by_cases hfj:f = j
          ·have hb:(f != (j:Int)) = false:=by simp [hfj]
           have Hfj:=hid hfj
           clear hfj
           go_wp2_with fail
           refine Hst.out.mono ?_
           rintro e w3 ⟨rfl,hx3⟩
           cases hsf:standsF T S s j with
           | true =>
            have Hsf:=hid hsf
            clear hsf
            go_wp2_with fail
            go_roundg (n - (j + 1))
            case measure=>have:=Hg3.out;omega
            case rel =>
             refine ⟨j + 1,by omega,rfl,by go_num,fun y hy hyj=>?_,hxr.trans hx3⟩
             rcases Nat.lt_or_ge y j with h | h
             ·exact Hall.out y hy h
             ·obtain rfl:y = j:=by omega
              rw [Hse.out,Hf.out]
              exact ⟨Hfj.out,Hsf.out⟩
           | false =>
            have hno:¬ RightP T S:=fun h=>by have:=(Hall1.out h).2;rw [hsf] at this;cases this
            have Hno:=hid hno
            clear hno hsf
            go_wp2
            go_ret
            exact ⟨false,rfl,⟨fun h=>(by cases h),fun h=>absurd h Hno.out⟩,hx1.trans (hxr.trans hx3)⟩
          ·have hb:(f != (j:Int)) = true:=by simpa using hfj
           have hno:¬ RightP T S:=fun h=>hfj (by rw [← Hf.out];exact (Hall1.out h).1)
           have Hno:=hid hno
           clear hno hfj
           go_wp2
           go_ret
           exact ⟨false,rfl,⟨fun h=>(by cases h),fun h=>absurd h Hno.out⟩,hx1.trans hxr⟩
         ·have hyes:RightP T S:=⟨⟨e,by rw [hlen.out];exact Hp.out⟩,by have:=hlenT.out;omega,by have:=hlenT.out;have:=hlen.out;omega,Hrange.out,fun i hi=>Hall.out i hi (by have:=hlenT.out;omega)⟩
          have Hyes:=hid hyes
          clear hyes
          go_wp2
          go_ret
          exact ⟨true,rfl,⟨fun _=>Hyes.out,fun _=>rfl⟩,hx1.trans hxr⟩
     ·have hno:¬ RightP T S:=fun h=>hn2 (by have:=h.half;have:=hlenT.out;have:=hlen.out;omega)
      have Hno:=hid hno
      clear hno
      subst hmp
      go_wp2
      go_ret
      exact ⟨false,rfl,⟨fun h=>(by cases h),fun h=>absurd h Hno.out⟩,hx1⟩
    ·have hno:¬ RightP T S:=fun h=>hn1 (by have:=h.most;have:=hlenT.out;omega)
     have Hno:=hid hno
     clear hno
     subst hmp
     go_wp2
     go_ret
     exact ⟨false,rfl,⟨fun h=>(by cases h),fun h=>absurd h Hno.out⟩,hx1⟩
   ·have hno:¬ RightP T S:=fun h=>pow_no Hp.out Hpm.out (by omega) hmp (by have:=h.pow;rw [hlen.out] at this;exact this)
    have Hno:=hid hno
    have hb:((m:Int) != (p:Int)) = true:=by simp;omega
    clear hno
    go_wp2
    go_ret
    exact ⟨false,rfl,⟨fun h=>(by cases h),fun h=>absurd h Hno.out⟩,hx1⟩
end

/- Find and Text. -/
section
open Go.RowKit Go.Shelf Go.Sort
theorem ret_ib {k:IntKind} {a a':Int} {b b':Bool} (h:a = a') (h':b = b'):Ending.returned (.tuple #[.int k a,.bool b]) = .returned (.tuple #[.int k a',.bool b']):=by rw [h,h']
theorem TabOK.findx {T:List ByteArray} {S:List Int} (h:TabOK T S) (s:ByteArray):∃ p:Nat,placeF T S s = p ∧ p < S.length ∧ S.getD p 0 = findF T s + 1:=by
 obtain ⟨p,h1,h2,h3⟩:=h.find s
 refine ⟨p,h1,h2,?_⟩
 rcases h3 with ⟨h4,h5⟩ | ⟨i,hi,h4,h5⟩
 ·rw [findF_no.2 h5,h4];rfl
 ·rw [h4,← h5,findF_distinct h.distinct hi]
set_option maxHeartbeats 1000000 in
theorem find_no (T:List ByteArray) (S:List Int) (s:ByteArray) (a:Option Addr) (n c:Nat) (b:Option Addr) (m d:Nat) (w:World) (hT:Strs w (.slice a n c) T) (hS:Ints w .i64 (.slice b m d) S)
 (hm:m ≤ 1048576) (hTs:∀ s ∈ T,s.size ≤ 9223372036854775807) (hno:¬ TabOK T S):Calls Tryz.prog 101 #[.agg #[.slice a n c,.slice b m d],.string s] w fun e w'=>e = .returned (.tuple #[.int .i64 0,.bool false]) ∧ Ext w w':=by
 have Hno:=hid hno
 have HTs:=hid hTs
 clear hno hTs
 go_enter Tryz.func101,Tryz.ntmps101
 go_upto_region 1 with fail
 have hx1:Ext w (w.alloc (.cells #[.slice a n c,.slice b m d] 25)):=Ext.alloc _ _
 have b0:(w.alloc (.cells #[.slice a n c,.slice b m d] 25)).cell? ⟨w.heap.size,0,none⟩ = some (.slice a n c):=by simp [go_sem]
 have b1:(w.alloc (.cells #[.slice a n c,.slice b m d] 25)).cell? ⟨w.heap.size,1,none⟩ = some (.slice b m d):=by simp [go_sem]
 have hT1:=hT.ext hx1
 have hS1:=hS.ext hx1
 generalize (w.alloc (.cells #[.slice a n c,.slice b m d] 25)) = w1 at *
 clear hT hS
 have HS:=hid hS1
 have HT:=hid hT1
 clear hS1 hT1
 go_wp2_with fail
 refine (tcheck_no HT.out HS.out hm HTs.out Hno.out).mono ?_
 rintro e w2 ⟨rfl,hx2⟩
 go_wp2
 go_ret2
 exact ⟨rfl,hx1.trans hx2⟩
set_option maxHeartbeats 1000000 in
theorem find_yes (T:List ByteArray) (S:List Int) (s:ByteArray) (a:Option Addr) (n c:Nat) (b:Option Addr) (m d:Nat) (w:World) (hT:Strs w (.slice a n c) T) (hS:Ints w .i64 (.slice b m d) S)
 (hm:m ≤ 1048576) (hTs:∀ s ∈ T,s.size ≤ 9223372036854775807) (hs:s.size ≤ 9223372036854775807) (hok:TabOK T S):Calls Tryz.prog 101 #[.agg #[.slice a n c,.slice b m d],.string s] w fun e w'=>e = .returned (.tuple #[.int .i64 (max (findF T s) 0),.bool (decide (0 ≤ findF T s))]) ∧ Ext w w':=by
 have Hok:=hid hok
 have HTs:=hid hTs
 have hlen:=hid hS.len
 have hfr:=findF_range T s
 have hT1k:=hok.most
 have hrg:∀ x ∈ S,0 ≤ x ∧ x ≤ T.length:=hok.laid.range
 have Hrg:=hid hrg
 obtain ⟨p,hp,hpl,hpx⟩:=hok.findx s
 rw [hlen.out] at hpl
 clear hok hTs hrg
 go_enter Tryz.func101,Tryz.ntmps101
 go_upto_region 1 with fail
 have hx1:Ext w (w.alloc (.cells #[.slice a n c,.slice b m d] 25)):=Ext.alloc _ _
 have b0:(w.alloc (.cells #[.slice a n c,.slice b m d] 25)).cell? ⟨w.heap.size,0,none⟩ = some (.slice a n c):=by simp [go_sem]
 have b1:(w.alloc (.cells #[.slice a n c,.slice b m d] 25)).cell? ⟨w.heap.size,1,none⟩ = some (.slice b m d):=by simp [go_sem]
 have hT1:=hT.ext hx1
 have hS1:=hS.ext hx1
 generalize (w.alloc (.cells #[.slice a n c,.slice b m d] 25)) = w1 at *
 clear hT hS
 have HS:=hid hS1
 have HT:=hid hT1
 have Hp:=hid hp
 have Hpx:=hid hpx
 clear hS1 hT1 hp hpx
 go_wp2_with fail
 refine (tcheck_yes HT.out HS.out hm HTs.out Hok.out).mono ?_
 rintro e w2 ⟨rfl,hx2⟩
 have HS2:=hid (HS.out.ext hx2)
 have HT2:=hid (HT.out.ext hx2)
 have b0:=ext_cell hx2 b0
 have b1:=ext_cell hx2 b1
 obtain ⟨sb,so,rfl,hck⟩:=HS2.out.atD (k:=p) (by rw [hlen.out];exact hpl)
 rw [Hpx.out] at hck
 generalize hfe:findF T s = f at hck hfr
 have Hfe:=hid hfe
 clear hfe
 have hx12:=hx1.trans hx2
 clear hx1 hx2
 have cP:=calls_quiet (w:=w2) (v:=.int .i64 p) fun w' hx=>(place_any T S s a n c _ m d w' (HT2.out.ext hx) (HS2.out.ext hx) Hrg.out hm hs).mono fun e w'' ⟨he,hx'⟩=>⟨by rw [he,Hp.out],hx'⟩
 have k0:=cell_regrown b0
 have k1:=cell_regrown b1
 have k2:=cell_regrown hck
 go_wp2_with fail
 refine wp_region_quiet_below (by kernel_rfl) (by kernel_rfl) ?_
 repeat (any_goals (first | go_big_quiet_step (exact cP _ _) | quiet_step (exact cP _ _)))
 refine wpQuiet_nil ?_
 intro wq hw'
 have hxq:=ext_regrown hw'
 clear hw'
 clear cP k0 k1 k2
 go_wp2
 all_goals
  go_ret2
  exact ⟨ret_ib (by have:=Hfe.out;omega) (by rw [Hfe.out,decide_eq_decide];omega),hx12.trans hxq⟩
def textF (T:List ByteArray) (q:Int):Value:=if 0 ≤ q ∧ q < T.length then .tuple #[.string (T.getD q.toNat ⟨#[]⟩),.int .i64 0] else .tuple #[.string ⟨#[]⟩,.int .i64 4]
set_option maxHeartbeats 1000000 in
theorem text_yes (T:List ByteArray) (S:List Int) (q:Int) (a:Option Addr) (n c:Nat) (b:Option Addr) (m d:Nat) (w:World) (hT:Strs w (.slice a n c) T) (hS:Ints w .i64 (.slice b m d) S)
 (hm:m ≤ 1048576) (hTs:∀ s ∈ T,s.size ≤ 9223372036854775807) (hok:TabOK T S):Calls Tryz.prog 156 #[.agg #[.slice a n c,.slice b m d],.int .i64 q] w fun e w'=>e = .returned (textF T q) ∧ Ext w w':=by
 have Hok:=hid hok
 have HTs:=hid hTs
 have hlenT:=hid hT.len
 clear hok hTs
 go_enter Tryz.func156,Tryz.ntmps156
 go_upto_region 1 with fail
 have hx1:Ext w (w.alloc (.cells #[.slice a n c,.slice b m d] 25)):=Ext.alloc _ _
 have b0:(w.alloc (.cells #[.slice a n c,.slice b m d] 25)).cell? ⟨w.heap.size,0,none⟩ = some (.slice a n c):=by simp [go_sem]
 have b1:(w.alloc (.cells #[.slice a n c,.slice b m d] 25)).cell? ⟨w.heap.size,1,none⟩ = some (.slice b m d):=by simp [go_sem]
 have hT1:=hT.ext hx1
 have hS1:=hS.ext hx1
 generalize (w.alloc (.cells #[.slice a n c,.slice b m d] 25)) = w1 at *
 clear hT hS
 have HS:=hid hS1
 have HT:=hid hT1
 clear hS1 hT1
 go_wp2_with fail
 refine (tcheck_yes HT.out HS.out hm HTs.out Hok.out).mono ?_
 rintro e w2 ⟨rfl,hx2⟩
 have b0:=ext_cell hx2 b0
 have b1:=ext_cell hx2 b1
 have HT2:=hid (HT.out.ext hx2)
 by_cases h0:0 ≤ q
 ·by_cases h1:q < n
  ·obtain ⟨qn,rfl⟩:=Int.eq_ofNat_of_zero_le h0
   obtain ⟨tb,tO,rfl,htk⟩:=HT2.out.atD (k:=qn) (by have:=hlenT.out;omega)
   go_wp2
   go_ret2
   refine ⟨?_,hx1.trans hx2⟩
   unfold textF
   rw [if_pos ⟨h0,by have:=hlenT.out;omega⟩]
   rfl
  ·go_wp2
   go_ret2
   refine ⟨?_,hx1.trans hx2⟩
   unfold textF
   rw [if_neg (by have:=hlenT.out;omega)]
   rfl
 ·go_wp2
  go_ret2
  refine ⟨?_,hx1.trans hx2⟩
  unfold textF
  rw [if_neg (by omega)]
  rfl
end

/- laid. -/
section
open Go.RowKit Go.Shelf Go.Sort
set_option maxHeartbeats 1000000 in
theorem lay_one (T:List ByteArray) (S:List Int) (a:Option Addr) (n c sb:Nat) (m d B k p:Nat) (w:World) (hT:Strs w (.slice a n c) T) (hS:Ints w .i64 (.slice (some ⟨sb,0,none⟩) m d) S)
 (hm:m ≤ 1048576) (hTs:∀ s ∈ T,s.size ≤ 9223372036854775807) (hr:∀ x ∈ S,0 ≤ x ∧ x ≤ T.length) (hk:k < T.length) (hk2:k ≤ 1048576) (hp:placeF T S T[k] = p) (hpm:p < m)
 (b0:w.cell? ⟨B,0,none⟩ = some (.slice a n c)) (b1:w.cell? ⟨B,1,none⟩ = some (.slice (some ⟨sb,0,none⟩) m d)) (hf:w.frozen? ⟨sb,p,none⟩ = false) :
 Calls Tryz.prog 143 #[.int .i64 k,.pointer (some ⟨B,0,none⟩)] w fun e w'=>(∃ v,e = .returned v) ∧ ∃ w2,Ext w w2 ∧ w' = w2.setCell ⟨sb,p,none⟩ (.int .i64 (k + 1)):=by
 have hlenT:=hT.len
 have hkn:k < n:=by omega
 have hlen:=hid hS.len
 obtain ⟨tb,tO,rfl,htk⟩:=hT.atD hk
 rw [getD_at hk] at htk
 have hss:=hTs _ (List.getElem_mem hk)
 generalize T[k] = s at htk hp hss
 obtain ⟨_,_,e,hck⟩:=hS.atD (k:=p) (by rw [hlen.out];exact hpm)
 cases e
 generalize S.getD p 0 = x at hck
 have Hp:=hid hp
 have HT:=hid hT
 have HS:=hid hS
 have Hr:=hid hr
 clear hp hT hS hr hTs hlenT
 have cP:=calls_quiet (w:=w) (v:=.int .i64 p) fun w' hx=>(place_any T S s _ n c _ m d w' (HT.out.ext hx) (HS.out.ext hx) Hr.out hm hss).mono fun e w'' ⟨he,hx'⟩=>⟨by rw [he,Hp.out],hx'⟩
 have k0:=cell_regrown b0
 have k1:=cell_regrown b1
 have k2:=cell_regrown htk
 go_enter Tryz.func143,Tryz.ntmps143
 go_wp2_with fail
 refine wp_region_tail_ext 13 (by kernel_rfl) (by kernel_rfl) ?_
 simp only [List.take_succ_cons,List.take_zero,List.drop_succ_cons,List.drop_zero]
 repeat (any_goals (first | go_big_quiet_step (exact cP _ _) | quiet_step (exact cP _ _)))
 refine wpQuiet_nil ?_
 intro wq hw'
 have hxq:=ext_regrown hw'
 clear hw'
 have hck2:wq.cell? ⟨sb,p,none⟩ = some (.int .i64 x):=(hxq.cell (p:=⟨sb,p,none⟩) (cell_lt (by simpa using hck))).trans (by simpa using hck)
 have hf2:wq.frozen? ⟨sb,p,none⟩ = false:=(hxq.frozen (p:=⟨sb,p,none⟩) (cell_lt (by simpa using hck))).trans hf
 clear cP k0 k1 k2
 go_wp2
 go_end0
 exact ⟨⟨_,rfl⟩,wq,hxq,rfl⟩
theorem elS:ElT Tryz.prog 22 9 (.string ⟨#[]⟩) 1 16:=by
 obtain ⟨i,hi⟩:=info_parts (P:=Tryz.prog) (e:=9) (z:=.string ⟨#[]⟩) (size:=1) (bytes:=16) (by kernel_rfl)
 exact ⟨Tryz.underlying22,⟨i,hi⟩,rfl,by decide⟩
theorem elI:ElT Tryz.prog 23 3 (.int .i64 0) 1 8:=by
 obtain ⟨i,hi⟩:=info_parts (P:=Tryz.prog) (e:=3) (z:=.int .i64 0) (size:=1) (bytes:=8) (by kernel_rfl)
 exact ⟨Tryz.underlying23,⟨i,hi⟩,rfl,by decide⟩
theorem make_S (n:Nat) (h:n ≤ 1048576) (w:World):(Instr.makeSlice 22 (.int .i64 n) (.int .i64 n)).run Tryz.prog w = .ok (.slice (some ⟨w.heap.size,0,none⟩) n n) (w.alloc (.cells (List.replicate n (.string ⟨#[]⟩)).toArray 9)):=by
 rw [run_make_el elS n (by omega) (by omega),made_toList _ _ rfl]
theorem make_I (n:Nat) (h:n ≤ 1048576) (w:World):(Instr.makeSlice 23 (.int .i64 n) (.int .i64 n)).run Tryz.prog w = .ok (.slice (some ⟨w.heap.size,0,none⟩) n n) (w.alloc (.cells (List.replicate n (.int .i64 0)).toArray 3)):=by
 rw [run_make_el elI n (by omega) (by omega),made_toList _ _ rfl]
structure LaidAt (w0:World) (n m:Nat) (B g1 g2:Nat) (X Y:List Value) (w:World):Prop where
 below:Below w0.heap.size w0 w
 hB:w0.heap.size < B
 h1:w0.heap.size < g1
 h2:w0.heap.size < g2
 ne:B ≠ g1 ∧ B ≠ g2 ∧ g1 ≠ g2
 box:RowAt w B 25 [.slice (some ⟨g1,0,none⟩) n n,.slice (some ⟨g2,0,none⟩) m m]
 row1:RowAt w g1 9 X
 row2:RowAt w g2 3 Y
 res:RowAt w w0.heap.size 25 [.slice none 0 0,.slice none 0 0]
theorem LaidAt.ext {w0:World} {n m B g1 g2:Nat} {X Y:List Value} {w w':World} (h:LaidAt w0 n m B g1 g2 X Y w) (hx:Ext w w'):LaidAt w0 n m B g1 g2 X Y w' :=
 ⟨Below.ext h.below hx h.below.size,h.hB,h.h1,h.h2,h.ne,h.box.ext hx,h.row1.ext hx,h.row2.ext hx,h.res.ext hx⟩
theorem LaidAt.copied {w0:World} {n m B g1 g2:Nat} {X Y X':List Value} {w w':World} (h:LaidAt w0 n m B g1 g2 X Y w) (hr:RowAt w' g1 9 X') (hg:w.grownBy w' (some g1)):LaidAt w0 n m B g1 g2 X' Y w' :=
 ⟨h.below.grown hg h.below.size (fun k e=>by cases e;exact Nat.le_of_lt h.h1),h.hB,h.h1,h.h2,h.ne,h.box.kept hg (fun e=>h.ne.1 (by cases e;rfl)),hr,h.row2.kept hg (fun e=>h.ne.2.2 (by cases e;rfl)),h.res.kept hg (fun e=>by cases e;exact Nat.lt_irrefl _ h.h1)⟩
theorem LaidAt.set {w0:World} {n m B g1 g2:Nat} {X Y:List Value} {w:World} (h:LaidAt w0 n m B g1 g2 X Y w) (p:Nat) (v:Value):LaidAt w0 n m B g1 g2 X (Y.set p v) (w.setCell ⟨g2,p,none⟩ v) :=
 have hg:=grown_set w g2 p v
 ⟨h.below.grown hg h.below.size (fun k e=>by cases e;exact Nat.le_of_lt h.h2),h.hB,h.h1,h.h2,h.ne,h.box.kept hg (fun e=>h.ne.2.1 (by cases e;rfl)),h.row1.kept hg (fun e=>h.ne.2.2 (by cases e;rfl)),h.row2.set p v,h.res.kept hg (fun e=>by cases e;exact Nat.lt_irrefl _ h.h2)⟩
theorem str_one (l:List ByteArray):∀ x ∈ l.map Value.string,x.oneCell' = true:=by
 intro u hu
 obtain ⟨_,_,rfl⟩:=List.mem_map.1 hu
 rfl
def TabOwn (B:Nat) (w:World) (v:Value) (T:List ByteArray) (S:List Int):Prop:=∃ a n c b m d,v = .agg #[.slice a n c,.slice b m d] ∧
 w.ownsRow B 9 1 (.slice a n c) T.length (T.map Value.string) ∧ w.ownsRow B 3 1 (.slice b m d) S.length (S.map (Value.int .i64))
theorem TabOwn.ext {B:Nat} {w w':World} {v:Value} {T:List ByteArray} {S:List Int} (h:TabOwn B w v T S) (hx:Ext w w'):TabOwn B w' v T S:=by
 obtain ⟨a,n,c,b,m,d,rfl,h1,h2⟩:=h
 exact ⟨a,n,c,b,m,d,rfl,own_ext h1 hx,own_ext h2 hx⟩
theorem TabOwn.base {B B':Nat} {w:World} {v:Value} {T:List ByteArray} {S:List Int} (h:TabOwn B w v T S) (hb:B' ≤ B):TabOwn B' w v T S:=by
 obtain ⟨a,n,c,b,m,d,rfl,h1,h2⟩:=h
 exact ⟨a,n,c,b,m,d,rfl,own_base h1 hb,own_base h2 hb⟩
theorem ownsRow_shape {w:World} {B size n:Nat} {e:TypeId} {a:Option Addr} {m c:Nat} {xs:List Value} (h:w.ownsRow B e size (.slice a m c) n xs):m = n:=by
 rcases h.2 with ⟨h1,h2⟩ | ⟨g,cap,cur,h1,_⟩
 ·cases h1;omega
 ·cases h1;rfl
theorem LaidAt.done {w0:World} {n m B g1 g2:Nat} {T:List ByteArray} {S:List Int} {w:World} (h:LaidAt w0 n m B g1 g2 (T.map Value.string) (S.map (Value.int .i64)) w) (hn:T.length = n) (hm:S.length = m) (h1:n ≤ maxLen) (h2:m ≤ maxLen) (u v:Value) :
 TabOwn w0.heap.size ((w.setCell ⟨w0.heap.size,0,none⟩ u).setCell ⟨w0.heap.size,1,none⟩ v) (.agg #[.slice (some ⟨g1,0,none⟩) n n,.slice (some ⟨g2,0,none⟩) m m]) T S ∧ Ext w0 ((w.setCell ⟨w0.heap.size,0,none⟩ u).setCell ⟨w0.heap.size,1,none⟩ v):=by
 subst hn hm
 have hg1:=grown_set w w0.heap.size 0 u
 have hg2:=grown_set (w.setCell ⟨w0.heap.size,0,none⟩ u) w0.heap.size 1 v
 have n1:some w0.heap.size ≠ some g1:=fun e=>by cases e;exact Nat.lt_irrefl _ h.h1
 have n2:some w0.heap.size ≠ some g2:=fun e=>by cases e;exact Nat.lt_irrefl _ h.h2
 have a1:=((h.row1.kept hg1 n1).kept hg2 n1).own (Nat.le_of_lt h.h1) (by simpa using h1)
 have a2:=((h.row2.kept hg1 n2).kept hg2 n2).own (Nat.le_of_lt h.h2) (by simpa using h2)
 simp only [List.length_map] at a1 a2
 have b1:=h.below.grown hg1 h.below.size (fun k e=>by cases e;exact Nat.le_refl _)
 exact ⟨⟨_,_,_,_,_,_,rfl,a1,a2⟩,b1.grown hg2 b1.size (fun k e=>by cases e;exact Nat.le_refl _)⟩
end

end Go.Proofs.YtkmbnghghbfkdaaGreat
