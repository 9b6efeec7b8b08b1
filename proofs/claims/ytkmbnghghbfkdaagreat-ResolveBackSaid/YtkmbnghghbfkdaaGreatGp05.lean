/- The slots of a text, and its place. -/
import Derived.Test.YtkmbnghghbfkdaaGreatGp04
import Derived.Test.YtkmbnghghbfkdaaGreatGp00
import Derived.Test.YtkmbnghghbfkdaaGreatGp01
import Derived.Deep.DeepCutAuto
import Derived.Deep.LoopGhost
set_option linter.unusedSimpArgs false
set_option linter.unusedVariables false
set_option maxHeartbeats 2000000
set_option maxRecDepth 100000
namespace Go.Proofs.YtkmbnghghbfkdaaGreat
open Go.Lib (hid)

section
open Go.RowKit Go.Shelf
attribute [local go_sem] Oper.semAt_some wide_fn wide_depth
theorem slots_any (a:Option Addr) (n c:Nat) (b:Option Addr) (m d:Nat) (s:ByteArray) (w:World):Calls Tryz.prog 135 #[.agg #[.slice a n c,.slice b m d],.string s] w fun e w' =>
 e = .returned (.func (.func 144) #[] #[.pointer (some ⟨w.heap.size,0,none⟩),.pointer (some ⟨w.heap.size + 1,0,none⟩)]) ∧ w' = (w.alloc (.cells #[.slice a n c,.slice b m d] 180)).alloc (.cells #[.string s] 9):=by
 go_enter Tryz.func135,Tryz.ntmps135
 go_wp2
 go_ret
 exact ⟨rfl,rfl⟩
theorem slots_iter (a:Option Addr) (n c:Nat) (b:Option Addr) (m d:Nat) (s:ByteArray) (w:World) (x y:Nat) (hx0:w.cell? ⟨x,0,none⟩ = some (.slice a n c)) (hx1:w.cell? ⟨x,1,none⟩ = some (.slice b m d)) (hy:w.cell? ⟨y,0,none⟩ = some (.string s))
 (hm:m ≤ 1048576) (hs:s.size ≤ 9223372036854775807) :
 IterOf Tryz.prog 144 #[.pointer (some ⟨x,0,none⟩),.pointer (some ⟨y,0,none⟩)] w m (fun k _ args=>args = #[.int .i64 (probe m s k)]):=by
 intro L W J Js hB hJ hJs hround h0
 refine callsIn_of_wp Tryz.func144 rfl trivial ?_
 simp only [Tryz.ntmps144,List.size_toArray,List.length_cons,List.length_nil,Nat.reduceAdd,Nat.reduceSub,Array.replicate_succ,Array.replicate_zero,List.push_toArray,List.append_toArray,List.nil_append,List.cons_append]
 have hB0:=hB 0 W h0
 have c0:=(hB0.cell (p:=⟨x,0,none⟩) (cell_lt hx0)).trans hx0
 have c1:=(hB0.cell (p:=⟨x,1,none⟩) (cell_lt hx1)).trans hx1
 have c2:=(hB0.cell (p:=⟨y,0,none⟩) (cell_lt hy)).trans hy
 gi_wp2_with (gi_at_call 145;refine (callsIn_wide.2 (hash_any _ _ hs)).mono ?_;rintro e w' ⟨rfl,rfl⟩)
 obtain ⟨hh0,hh1⟩:=hashL_range 14695981039346656037 (sbt s) (by omega) (by omega)
 have hH:(hashN s:Int) = hashL 14695981039346656037 (sbt s):=by unfold hashN;omega
 rw [← hH] at hh0 hh1
 rw [← hH]
 clear hH
 have hP:∀ (k X:Nat),X % m = probe m s k → (X % m + 1) % m = probe m s (k + 1):=fun k X h=>by
  unfold probe at *;rw [h,← Nat.add_assoc,Nat.mod_add_mod]
 have hP0:hashN s % m = probe m s 0:=rfl
 have HP:=hid hP
 generalize hashN s = H at hh0 hh1 hP0
 have HP0:=hid hP0
 have Hh1:=hid hh1
 clear hP hP0 hB0 hx0 hx1 hy hh1
 gi_loopw [5,17] (fun at_ i wr=>∃ k X:Nat,k ≤ m ∧ i = .int .i64 k ∧ at_ = .int .u64 X ∧ (X:Int) < 18446744073709551616 ∧ X % m = probe m s k ∧ J k wr) (fun _ i _=>m - (intOf i).toNat)
 case atStart=>exact ⟨0,H,Nat.zero_le _,rfl,rfl,Hh1.out,HP0.out,h0⟩
 case round =>
  obtain ⟨k,X,hk,rfl,rfl,hX,hXm,hj⟩:=hrel
  have HX:=hid hX
  have HXm:=hid hXm
  have hXp:0 ≤ (X:Int):=by omega
  have hk0:0 ≤ k:=Nat.zero_le _
  clear hX hXm
  by_cases hlt:k < m
  ·have hpl:=probe_lt m s k (by omega)
   obtain ⟨fn',tmps',assign',body',hy,hR⟩:=hround k #[.int .i64 (probe m s k)] wr hlt hj rfl
   have e1:((X:Int) % (m:Int)) = ((probe m s k:Nat):Int):=by rw [← HXm.out];rfl
   have hm0:0 < (m:Int):=by omega
   gi_wp2
   refine hR.mono ?_
   rintro e W3 (⟨rfl,hj3⟩ | ⟨rfl,hj3⟩)
   ·gi_wp2
    exact ⟨⟨k + 1,probe m s k + 1,by omega,by go_num,int_congr (by omega),by omega,by rw [← HP.out k X HXm.out,HXm.out],hj3⟩,by simp [intOf];omega⟩
   ·gi_wp2
    exact bodyPost_ret (results_none rfl _ _ _) rfl ⟨⟨_,rfl⟩,.inr hj3⟩
  ·gi_wp2
   go_end0
   exact ⟨⟨_,rfl⟩,.inl (by rw [show m = k from by omega];exact hj)⟩
theorem placeFrom_hit {T:List ByteArray} {S:List Int} {s:ByteArray} {m k:Nat} (hm:S.length = m) (h:k < m) (hh:hit T S s (probe m s k) = true):placeFrom T S s (m - k) k = probe m s k:=by
 obtain ⟨f,hf⟩:∃ f,m - k = f + 1:=⟨m - k - 1,by omega⟩
 rw [hf];unfold placeFrom;rw [hm,if_pos hh]
theorem placeFrom_miss {T:List ByteArray} {S:List Int} {s:ByteArray} {m k:Nat} (hm:S.length = m) (h:k < m) (hh:hit T S s (probe m s k) = false):placeFrom T S s (m - k) k = placeFrom T S s (m - (k + 1)) (k + 1):=by
 obtain ⟨f,hf⟩:∃ f,m - k = f + 1:=⟨m - k - 1,by omega⟩
 have e:placeFrom T S s (f + 1) k = if hit T S s (probe S.length s k) then (probe S.length s k:Int) else placeFrom T S s f (k + 1):=rfl
 rw [hf,e,hm,if_neg (by rw [hh];simp),show m - (k + 1) = f from by omega]
def PlX (w:World) (h:Nat) (v:Int) (W:World):Prop:=Below w.heap.size w W ∧ Boxed W h 3 (.int .i64 v)
theorem PlX.stab (w:World) (h:Nat) (v:Int) (B:Nat) (hB:w.heap.size ≤ B):Stab B (PlX w h v):=by
 intro W W' row ⟨h1,h2⟩ hg hr
 exact ⟨h1.grown hg h1.size (fun k e=>Nat.le_trans hB (hr k e).1),Stab.boxed B _ _ _ W W' row h2 hg hr⟩
theorem Stab.ext_ (w:World):Stab w.heap.size (fun W=>Ext w W):=Stab.below _ _ _ (Nat.le_refl _) (Nat.le_refl _)
set_option maxHeartbeats 1000000 in
theorem place_any (T:List ByteArray) (S:List Int) (s:ByteArray) (a:Option Addr) (n c:Nat) (b:Option Addr) (m d:Nat) (w:World) (hT:Strs w (.slice a n c) T) (hS:Ints w .i64 (.slice b m d) S)
 (hr:∀ x ∈ S,0 ≤ x ∧ x ≤ T.length) (hm:m ≤ 1048576) (hs:s.size ≤ 9223372036854775807):Calls Tryz.prog 110 #[.agg #[.slice a n c,.slice b m d],.string s] w fun e w'=>e = .returned (.int .i64 (placeF T S s)) ∧ Ext w w':=by
 refine calls_of_wp_marks Tryz.func110 rfl ?_
 simp only [Tryz.ntmps110,List.size_toArray,List.length_cons,List.length_nil,Nat.reduceAdd,Nat.reduceSub,Array.replicate_succ,Array.replicate_zero,List.push_toArray,List.append_toArray,List.nil_append,List.cons_append]
 go_wp2_with fail
 go_step3
 go_wp2_with fail
 go_step3
 go_wp2_with (go_at_call 135;refine (slots_any _ _ _ _ _ _ _ _).mono ?_;rintro e w' ⟨rfl,rfl⟩)
 generalize hw1:(((((w.alloc _).alloc _).alloc _).alloc _).alloc _) = w1
 have q0:w1.cell? ⟨w.heap.size,0,none⟩ = some (.slice a n c):=by subst hw1;simp [go_sem]
 have q1:w1.cell? ⟨w.heap.size,1,none⟩ = some (.slice b m d):=by subst hw1;simp [go_sem]
 have q2:w1.cell? ⟨w.heap.size + 1,0,none⟩ = some (.string s):=by subst hw1;simp [go_sem]
 have q3:Boxed w1 (w.heap.size + 1 + 1) 3 (.int .i64 (-1)):=by
  subst hw1
  have:=Boxed.new ((w.alloc (.cells #[.slice a n c,.slice b m d] 180)).alloc (.cells #[.string s] 9)) 3 (.int .i64 (-1))
  exact (((by simpa using this):Boxed _ (w.heap.size + 1 + 1) _ _).alloc _).alloc _
 have hx1:Ext w w1:=by subst hw1;exact ((((Ext.alloc _ _).trans (Ext.alloc _ _)).trans (Ext.alloc _ _)).trans (Ext.alloc _ _)).trans (Ext.alloc _ _)
 have hT1:=hT.ext hx1
 have hS1:=hS.ext hx1
 have hlen:S.length = m:=by obtain ⟨_,_,e,_⟩:=hS;cases e;rfl
 have hlenT:T.length = n:=by obtain ⟨_,_,e,_⟩:=hT;cases e;rfl
 refine wp_over (w0:=w1) rfl (enters_of Tryz.func144 (by kernel_rfl) rfl) (slots_iter a n c b m d s w1 _ _ (by subst hw1;simp [go_sem]) (by subst hw1;simp [go_sem]) (by subst hw1;simp [go_sem]) hm hs)
  (by rintro k W args rfl;rfl) (fun k args=>Stab.pure _ _)
  (fun k W=>Ext w1 W ∧ placeF T S s = placeFrom T S s (m - k) k) (fun q W=>q = .exit 0 ∧ PlX w (w.heap.size + 1 + 1) (placeF T S s) W)
  (fun k=>(Stab.ext_ _).and (Stab.pure _ _)) (fun q=>(Stab.pure _ _).and (PlX.stab _ _ _ _ hx1.size)) (fun k W h=>h.1) ⟨Ext.refl _,by unfold placeF;rw [hlen];rfl⟩ ?_ ?_ ?_
 ·rintro k args W L hk hL ⟨hxW,hpl⟩ rfl
  gi_wp2
  refine ⟨KeepsFrom.refl _ _,⟨hxW,hpl⟩,trivial,?_⟩
  rintro W2 ⟨hx2,_⟩ -
  have q0:=(hx2.cell (p:=⟨w.heap.size,0,none⟩) (cell_lt q0)).trans q0
  have q1:=(hx2.cell (p:=⟨w.heap.size,1,none⟩) (cell_lt q1)).trans q1
  have q2:=(hx2.cell (p:=⟨w.heap.size + 1,0,none⟩) (cell_lt q2)).trans q2
  have q3:=q3.kept (grown_ext hx2) (by simp)
  have c3:=q3.cell
  have f3:=q3.frozen
  have Hb:=hid (show Below w.heap.size w w1 from hx1)
  have Hw1:=hid hx1.size
  have Hpl:=hid hpl
  have hpm:=probe_lt m s k (by omega)
  have Hlen:=hid hlen
  have HlenT:=hid hlenT
  have hS2:=hS1.ext hx2
  have hT2:=hT1.ext hx2
  obtain ⟨sb,so,rfl,hck⟩:=hS2.atD (k:=probe m s k) (by omega)
  have hrk:=hr _ (getD_mem (show probe m s k < S.length by omega))
  generalize hxk:S.getD (probe m s k) 0 = x at hck hrk
  have Hxk:=hid hxk
  clear hS2 hxk hx1 hxW hS hT hS1 hT1 hw1 hlen hlenT hpl
  by_cases hx0:x = 0
  ·subst hx0
   gi_wp2
   refine wpIn_round_quiet (by kernel_rfl) (by kernel_rfl) (by kernel_rfl) ?_
   repeat (any_goals (first | go_big_quiet_step (fail) | quiet_step (fail)))
   refine wpQuiet_nil ?_
   intro _ hw'
   obtain ⟨nq,hw''⟩:=hw'
   subst hw''
   gi_wp2
   rw [show (probe m s k:Int) = placeF T S s from by rw [Hpl.out,placeFrom_hit Hlen.out hk (hit_zero Hxk.out)]]
   exact ⟨(keeps_ext _ (Ext.drewN _ _)).trans (keeps_set _ (show (W2.drewN nq).cell? _ = _ from c3) _),rfl,(Below.ext (Below.ext Hb.out hx2 Hw1.out) (Ext.drewN _ _) (Nat.le_trans Hw1.out hx2.size)).setCell (p:=⟨w.heap.size + 1 + 1,0,none⟩) (by show w.heap.size ≤ w.heap.size + 1 + 1;omega) _,(q3.kept (grown_ext (Ext.drewN _ _)) (by simp)).set _⟩
  ·have hb0:(x == 0) = false:=by simpa using hx0
   have HT:=HlenT.out
   have hxb:x ≤ 9223372036854775807:=by obtain ⟨_,_,e,h1,h2⟩:=Sl.shape hT2;simp only [Value.slice.injEq] at e;omega
   obtain ⟨tb,tq,rfl,htk⟩:=hT2.atD (k:=(x - 1).toNat) (by omega)
   have hx1:1 ≤ x:=by omega
   generalize hyk:T.getD (x - 1).toNat ⟨#[]⟩ = y at htk
   rw [show (x - 1).toNat = x.toNat - 1 from by omega] at htk
   have hx3:0 ≤ x - 1:=by omega
   have hx4:x - 1 < (n:Int):=by omega
   clear hT2 hx0 HT
   have Hyk:=hid hyk
   clear hyk
   by_cases hys:y = s
   ·have hys':=str_yes hys
    have Hys:=hid hys
    clear hys
    gi_wp2
    refine wpIn_round_quiet (by kernel_rfl) (by kernel_rfl) (by kernel_rfl) ?_
    repeat (any_goals (first | go_big_quiet_step (fail) | quiet_step (fail)))
    refine wpQuiet_nil ?_
    intro _ hw'
    obtain ⟨nq,hw''⟩:=hw'
    subst hw''
    gi_wp2
    rw [show (probe m s k:Int) = placeF T S s from by rw [Hpl.out,placeFrom_hit Hlen.out hk];unfold hit;rw [Hxk.out,Hyk.out,Hys.out];simp]
    exact ⟨(keeps_ext _ (Ext.drewN _ _)).trans (keeps_set _ (show (W2.drewN nq).cell? _ = _ from c3) _),rfl,(Below.ext (Below.ext Hb.out hx2 Hw1.out) (Ext.drewN _ _) (Nat.le_trans Hw1.out hx2.size)).setCell (p:=⟨w.heap.size + 1 + 1,0,none⟩) (by show w.heap.size ≤ w.heap.size + 1 + 1;omega) _,(q3.kept (grown_ext (Ext.drewN _ _)) (by simp)).set _⟩
   ·have hys':=str_no hys
    have Hys:=hid hys
    clear hys
    gi_wp2
    refine wpIn_round_quiet (by kernel_rfl) (by kernel_rfl) (by kernel_rfl) ?_
    repeat (any_goals (first | go_big_quiet_step (fail) | quiet_step (fail)))
    refine wpQuiet_nil ?_
    intro _ hw'
    obtain ⟨nq,hw''⟩:=hw'
    subst hw''
    gi_wp2
    exact ⟨keeps_ext _ (Ext.drewN _ _),hx2.trans (Ext.drewN _ _),by rw [Hpl.out];exact placeFrom_miss Hlen.out hk (by unfold hit;rw [Hxk.out,Hyk.out,hb0,decide_eq_false Hys.out];rfl)⟩
 ·rintro D W hD ⟨hxW,hpl⟩ hdf
  have q3:=q3.kept (grown_ext hxW) (by simp)
  have c3:=q3.cell
  have hB:=Below.ext hx1 hxW hx1.size
  rw [Nat.sub_self,show placeFrom T S s 0 m = -1 from rfl] at hpl
  have Hpl:=hid hpl
  clear hpl hw1 hlen hlenT
  go_wp2
  rw [Exit.noGoto_ret]
  refine leave_marked hdf (fun _=>results_tmp rfl _ _ _) ⟨?_,below_mark hB (Nat.le_trans hx1.size hD)⟩
  show Ending.returned (.int .i64 (-1)) = _
  rw [Hpl.out]
 ·rintro D q W hD ⟨rfl,hB,q3⟩ hdf
  have c3:=q3.cell
  clear hw1 hlen hlenT
  go_wp2
  rw [Exit.noGoto_ret]
  exact leave_marked hdf (fun _=>results_tmp rfl _ _ _) ⟨rfl,below_mark hB (Nat.le_trans hx1.size hD)⟩
end

/- Check. -/
section
open Go.RowKit Go.Shelf
def sizesB (n m:Nat):Bool:=decide ((n:Int) ≤ 1024) && (decide (8 ≤ (m:Int)) && (decide (bits .and .i64 (m:Int) ((m:Int) - 1) = 0) && decide (2 * (n:Int) ≤ m)))
def rangeB (n:Nat) (S:List Int):Bool:=S.all fun x=>decide (0 ≤ x) && decide (x ≤ n)
theorem rangeB_snoc (n:Nat) (S:List Int) (k:Nat) (h:k < S.length):rangeB n (S.take (k + 1)) = (rangeB n (S.take k) && (decide (0 ≤ S.getD k 0) && decide (S.getD k 0 ≤ n))):=by
 unfold rangeB;rw [take_snoc _ _ h,List.all_append];simp [List.getD,h]
theorem usedN_snoc (S:List Int) (k:Nat) (h:k < S.length):usedN (S.take (k + 1)) = usedN (S.take k) + if 0 < S.getD k 0 then 1 else 0:=by
 unfold usedN;rw [take_snoc _ _ h,List.filter_append];simp only [List.length_append,List.filter_cons,List.filter_nil];simp only [List.getD,h,List.getElem?_eq_getElem,Option.getD_some]
 split <;> simp_all
theorem i64_and_nat (a b:Nat) (ha:a < 9223372036854775808) (hb:b < 9223372036854775808):bits .and .i64 (a:Int) (b:Int) = ((a &&& b:Nat):Int):=by
 have hx:a &&& b < 2 ^ 63:=Nat.and_lt_two_pow _ (by omega)
 show IntKind.i64.wrap ((BitVec.ofInt 64 (a:Int) &&& BitVec.ofInt 64 (b:Int)).toNat:Int) = _
 rw [BitVec.toNat_and,BitVec.ofInt_natCast,BitVec.ofInt_natCast,BitVec.toNat_ofNat,BitVec.toNat_ofNat,Nat.mod_eq_of_lt (by omega),Nat.mod_eq_of_lt (by omega),IntKind.wrap_i64]
 omega
theorem pow_iff (m:Nat) (hm:m ≤ 1048576):(8 ≤ (m:Int) ∧ bits .and .i64 (m:Int) ((m:Int) - 1) = 0) ↔ ∃ e,m = 8 * 2 ^ e:=by
 by_cases h0:m = 0
 ·subst h0
  constructor
  ·rintro ⟨h,_⟩;simp at h
  ·rintro ⟨e,h⟩;have:0 < 2 ^ e:=Nat.pow_pos (by omega);omega
 ·have e1:(m:Int) - 1 = ((m - 1:Nat):Int):=by omega
  rw [e1,i64_and_nat m (m - 1) (by omega) (by omega)]
  have hp:=Nat.and_sub_one_eq_zero_iff_isPowerOfTwo (n:=m) h0
  constructor
  ·rintro ⟨h8,hb⟩
   obtain ⟨e,he⟩:=hp.1 (by omega)
   have h3:3 ≤ e:=by
    refine Classical.byContradiction fun hc=>?_
    have:e = 0 ∨ e = 1 ∨ e = 2:=by omega
    rcases this with rfl | rfl | rfl <;> simp at he <;> omega
   obtain ⟨f,rfl⟩:∃ f,e = f + 3:=⟨e - 3,by omega⟩
   exact ⟨f,by rw [he,Nat.pow_add];omega⟩
  ·rintro ⟨e,he⟩
   have h1:0 < 2 ^ e:=Nat.pow_pos (by omega)
   refine ⟨by omega,?_⟩
   have:=hp.2 ⟨e + 3,by rw [he,Nat.pow_add];omega⟩
   omega
theorem check_iff {T:List ByteArray} {S:List Int} {n m:Nat} (hn:T.length = n) (hl:S.length = m) (hm:m ≤ 1048576) :
 TabOK T S ↔ ((sizesB n m && rangeB n S) = true ∧ usedN S = n) ∧ ∀ i (h:i < T.length),∃ p:Nat,placeF T S T[i] = p ∧ S.getD p 0 = i + 1:=by
 have hp:=pow_iff m hm
 constructor
 ·intro h
  refine ⟨⟨?_,by rw [← hn];exact h.laid.used⟩,fun i hi=>h.laid.at_ i hi hi⟩
  obtain ⟨h1,h2⟩:=hp.2 (hl ▸ h.pow)
  have h3:=h.most
  have h4:=h.half
  rw [Bool.and_eq_true]
  refine ⟨?_,?_⟩
  ·unfold sizesB;simp [h2];omega
  ·unfold rangeB;rw [List.all_eq_true];intro x hx;have:=h.laid.range x hx;simp;omega
 ·rintro ⟨⟨h1,h2⟩,h3⟩
  rw [Bool.and_eq_true] at h1
  obtain ⟨h1,h1'⟩:=h1
  unfold sizesB at h1
  simp only [Bool.and_eq_true,decide_eq_true_eq] at h1
  obtain ⟨a1,a2,a3,a4⟩:=h1
  refine ⟨hl ▸ hp.1 ⟨a2,a3⟩,by omega,by omega,?_,by omega,fun i hi hi'=>h3 i hi'⟩
  intro x hx
  have:=List.all_eq_true.1 h1' x hx
  simp at this;omega
set_option maxHeartbeats 1000000 in
theorem tcheck_any (T:List ByteArray) (S:List Int) (a:Option Addr) (n c:Nat) (b:Option Addr) (m d:Nat) (w:World) (hT:Strs w (.slice a n c) T) (hS:Ints w .i64 (.slice b m d) S)
 (hm:m ≤ 1048576) (hTs:∀ s ∈ T,s.size ≤ 9223372036854775807):Calls Tryz.prog 78 #[.agg #[.slice a n c,.slice b m d]] w fun e w'=>∃ r,e = .returned (.int .i64 r) ∧ (r = 0 ∨ r = 150) ∧ (r = 0 ↔ TabOK T S) ∧ Ext w w':=by
 have hn:n ≤ 9223372036854775807:=by obtain ⟨_,_,e,h1,h2⟩:=Sl.shape hT;simp only [Value.slice.injEq] at e;omega
 have hlen:=hid hS.len
 have hlenT:=hid hT.len
 go_enter Tryz.func78,Tryz.ntmps78
 go_upto_region 2 with fail
 go_cut [4] (fun s4 wx=>s4 = .bool (sizesB n m) ∧ wx = w.alloc (.cells #[.slice a n c,.slice b m d] 25))
 case first =>
  go_wp2
  all_goals (go_meet;exact ⟨bool_congr (by unfold sizesB;simp [*] <;> omega),rfl⟩)
 case rest =>
  obtain ⟨rfl,rfl⟩:=hcut
  have hx1:=Ext.alloc w (.cells #[.slice a n c,.slice b m d] 25)
  have hT1:=hT.ext hx1
  have hS1:=hS.ext hx1
  have hx1:=hid hx1
  go_wp2_with fail
  go_loopg [4,5,41] m (fun g s4 s5 i wr=>∃ (k u:Nat) (ok:Bool),k ≤ m ∧ g = m - k ∧ i = .int .i64 k ∧ s4 = .bool ok ∧ s5 = .int .i64 u ∧ u ≤ k ∧ ok = (sizesB n m && rangeB n (S.take k)) ∧ (ok = true → u = usedN (S.take k)) ∧ wr = w.alloc (.cells #[.slice a n c,.slice b m d] 25))
  case atStart=>exact ⟨0,0,_,Nat.zero_le _,rfl,rfl,rfl,rfl,Nat.le_refl _,by simp [rangeB],by simp [usedN],rfl⟩
  case round =>
   obtain ⟨k,u,ok,hk,hg,rfl,rfl,rfl,hu,hok,huse,rfl⟩:=hrel
   have Hok:=hid hok
   have Huse:=hid huse
   have Hg:=hid hg
   clear hok huse hg
   by_cases hlt:k < m
   ·obtain ⟨sb,so,rfl,hck⟩:=hS1.atD (k:=k) (by rw [hlen.out];exact hlt)
    generalize hxk:S.getD k 0 = x at hck
    have Hxk:=hid hxk
    clear hxk
    have hck:(w.alloc (.cells #[.slice a n c,.slice (some ⟨sb,so,none⟩) m d] 25)).cell? ⟨sb,so + k,none⟩ = some (.int .i64 x):=hck
    have hk':=rangeB_snoc n S k (by rw [hlen.out];exact hlt)
    have hu':=usedN_snoc S k (by rw [hlen.out];exact hlt)
    rw [Hxk.out] at hk' hu'
    rw [← Bool.and_assoc] at hk'
    have HK:=hid hk'
    have HU:=hid hu'
    clear hS1 hS hT1 hT hTs hk' hu'
    cases ok with
    | false =>
     go_wp2
     go_roundg (m - (k + 1))
     case measure=>have:=Hg.out;omega
     case rel=>exact ⟨k + 1,u,false,by omega,rfl,by go_num,rfl,by go_num,by omega,by rw [HK.out,Bool.and_assoc,← Bool.and_assoc,← Hok.out];rfl,fun h=>(by cases h),rfl⟩
    | true =>
     by_cases h0:0 ≤ x
     ·by_cases h1:x ≤ n
      ·by_cases h2:0 < x
       ·go_wp2
        go_roundg (m - (k + 1))
        case measure=>have:=Hg.out;omega
        case rel=>exact ⟨k + 1,u + 1,true,by omega,rfl,by go_num,rfl,by go_num,by omega,by rw [HK.out,Bool.and_assoc,← Bool.and_assoc,← Hok.out];simp [h0,h1],fun h=>by rw [HU.out,if_pos h2,← Huse.out (by trivial)],rfl⟩
       ·go_wp2
        go_roundg (m - (k + 1))
        case measure=>have:=Hg.out;omega
        case rel=>exact ⟨k + 1,u,true,by omega,rfl,by go_num,rfl,by go_num,by omega,by rw [HK.out,Bool.and_assoc,← Bool.and_assoc,← Hok.out];simp [h0,h1],fun h=>by rw [HU.out,if_neg (by omega),← Huse.out (by trivial)];rfl,rfl⟩
      ·go_wp2
       go_roundg (m - (k + 1))
       case measure=>have:=Hg.out;omega
       case rel=>exact ⟨k + 1,u,false,by omega,rfl,by go_num,rfl,by go_num,by omega,by rw [HK.out,Bool.and_assoc,← Bool.and_assoc,← Hok.out];simp [h0,h1],fun h=>(by cases h),rfl⟩
     ·go_wp2
      go_roundg (m - (k + 1))
      case measure=>have:=Hg.out;omega
      case rel=>exact ⟨k + 1,u,false,by omega,rfl,by go_num,rfl,by go_num,by omega,by rw [HK.out,Bool.and_assoc,← Bool.and_assoc,← Hok.out];rw [decide_eq_false (show ¬ 0 ≤ x by omega)];rfl,fun h=>(by cases h),rfl⟩
   ·obtain rfl:k = m:=by omega
    rw [List.take_of_length_le (Nat.le_of_eq hlen.out)] at Hok Huse
    cases ok with
    | false =>
     have hno:¬ TabOK T S:=fun h=>by have:=((check_iff hlenT.out hlen.out hm).1 h).1.1;rw [← Hok.out] at this;cases this
     have Hno:=hid hno
     clear hno
     go_wp2
     go_ret
     exact ⟨150,rfl,.inr rfl,⟨fun h=>by omega,fun h=>absurd h Hno.out⟩,hx1.out⟩
    | true =>
     by_cases hun:u = n
     ·have hun':((u:Int) != (n:Int)) = false:=by simp [hun]
      have Hun:=hid hun
      clear hun
      have hr:∀ x ∈ S,0 ≤ x ∧ x ≤ T.length:=by
       have h:=Hok.out
       have hl:=hlenT.out
       intro x hx
       have h2:rangeB n S = true:=by rw [eq_comm,Bool.and_eq_true] at h;exact h.2
       have:=List.all_eq_true.1 h2 x hx
       simp at this;omega
      have Hr:=hid hr
      have HS:=hid hS1
      have HT:=hid hT1
      have HTs:=hid hTs
      have b1:(w.alloc (.cells #[.slice a n c,.slice b k d] 25)).cell? ⟨w.heap.size,0,none⟩ = some (.slice a n c):=by simp [go_sem]
      have b2:(w.alloc (.cells #[.slice a n c,.slice b k d] 25)).cell? ⟨w.heap.size,1,none⟩ = some (.slice b k d):=by simp [go_sem]
      clear hr hS1 hT1 hS hT hTs
      go_wp2_with fail
      generalize (w.alloc (.cells #[.slice a n c,.slice b k d] 25)) = w1 at *
      go_loopg [80] n (fun g i wr=>∃ j:Nat,j ≤ n ∧ g = n - j ∧ i = .int .i64 j ∧ (∀ x (h:x < T.length),x < j → ∃ p:Nat,placeF T S T[x] = p ∧ S.getD p 0 = x + 1) ∧ Ext w1 wr)
      case atStart=>exact ⟨0,Nat.zero_le _,rfl,rfl,fun x h hx=>by omega,Ext.refl _⟩
      case round =>
       obtain ⟨j,hj,hg,rfl,hall,hxr⟩:=hrel
       have Hall:=hid hall
       have Hg2:=hid hg
       clear hall hg
       by_cases hlt2:j < n
       ·have hTr:=HT.out.ext hxr
        have hSr:=HS.out.ext hxr
        have b1:=(hxr.cell (p:=⟨w.heap.size,0,none⟩) (cell_lt b1)).trans b1
        have b2:=(hxr.cell (p:=⟨w.heap.size,1,none⟩) (cell_lt b2)).trans b2
        have hjT:j < T.length:=by have:=hlenT.out;omega
        obtain ⟨tb,tO,rfl,htk⟩:=hTr.atD hjT
        have hss:=HTs.out _ (List.getElem_mem hjT)
        rw [getD_at hjT] at htk
        generalize hse:T[j] = s at htk hss
        have Hse:=hid hse
        clear hse
        go_wp2_with fail
        refine (place_any T S s _ _ _ _ _ _ _ hTr hSr Hr.out hm hss).mono ?_
        rintro e w2 ⟨rfl,hx2⟩
        have b1:=(hx2.cell (p:=⟨w.heap.size,0,none⟩) (cell_lt b1)).trans b1
        have b2:=(hx2.cell (p:=⟨w.heap.size,1,none⟩) (cell_lt b2)).trans b2
        have hS2:=hSr.ext hx2
        clear hTr hSr
        rcases placeFrom_cases T S s S.length 0 with hp | ⟨p,hp⟩
        ·replace hp:placeF T S s = -1:=hp
         have hno:¬ TabOK T S:=fun h=>by
          obtain ⟨p,h1,h2⟩:=h.laid.at_ j hjT hjT
          rw [Hse.out,hp] at h1;omega
         have Hno:=hid hno
         clear hno
         rw [hp]
         go_wp2
         go_ret
         exact ⟨150,rfl,.inr rfl,⟨fun h=>by omega,fun h=>absurd h Hno.out⟩,hx1.out.trans (hxr.trans hx2)⟩
        ·replace hp:placeF T S s = p:=hp
         have hpl:=placeF_lt hp
         rw [hlen.out] at hpl
         obtain ⟨sb,so,rfl,hck⟩:=hS2.atD (k:=p) (by rw [hlen.out];exact hpl)
         generalize hxe:S.getD p 0 = x at hck
         have Hxe:=hid hxe
         have Hp:=hid hp
         rw [hp]
         clear hxe hp hS2
         by_cases hxj:x = (j:Int) + 1
         ·have hb:(x != (j:Int) + 1) = false:=by simp [hxj]
          have Hxj:=hid hxj
          clear hxj
          go_wp2_with fail
          go_roundg (n - (j + 1))
          case measure=>have:=Hg2.out;omega
          case rel =>
           refine ⟨j + 1,by omega,rfl,by go_num,fun y hy hyj=>?_,hxr.trans hx2⟩
           rcases Nat.lt_or_ge y j with h | h
           ·exact Hall.out y hy h
           ·obtain rfl:y = j:=by omega
            exact ⟨p,by rw [Hse.out];exact Hp.out,by rw [Hxe.out];exact Hxj.out⟩
         ·have hb:(x != (j:Int) + 1) = true:=by simpa using hxj
          have hno:¬ TabOK T S:=fun h=>by
           obtain ⟨q,h1,h2⟩:=h.laid.at_ j hjT hjT
           rw [Hse.out,Hp.out] at h1
           obtain rfl:q = p:=by omega
           rw [Hxe.out] at h2;exact hxj h2
          have Hno:=hid hno
          clear hno hxj
          go_wp2
          go_ret
          exact ⟨150,rfl,.inr rfl,⟨fun h=>by omega,fun h=>absurd h Hno.out⟩,hx1.out.trans (hxr.trans hx2)⟩
       ·have hyes:TabOK T S:=(check_iff hlenT.out hlen.out hm).2 ⟨⟨Hok.out.symm,by have:=Huse.out (by trivial);rw [← this,Hun.out]⟩,fun i hi=>Hall.out i hi (by have:=hlenT.out;omega)⟩
        have Hyes:=hid hyes
        clear hyes
        go_wp2
        go_ret
        exact ⟨0,rfl,.inl rfl,⟨fun _=>Hyes.out,fun _=>rfl⟩,hx1.out.trans hxr⟩
     ·have hun':((u:Int) != (n:Int)) = true:=by simp;omega
      have hno:¬ TabOK T S:=fun h=>by have:=((check_iff hlenT.out hlen.out hm).1 h).1.2;have:=Huse.out (by trivial);omega
      have Hno:=hid hno
      clear hno
      go_wp2
      go_ret
      exact ⟨150,rfl,.inr rfl,⟨fun h=>by omega,fun h=>absurd h Hno.out⟩,hx1.out⟩
end

end Go.Proofs.YtkmbnghghbfkdaaGreat
