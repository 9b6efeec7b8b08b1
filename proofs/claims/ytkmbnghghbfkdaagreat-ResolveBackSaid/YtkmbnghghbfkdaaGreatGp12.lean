/- What is written is read again; the dictionaries of the first look. -/
import Derived.Test.YtkmbnghghbfkdaaGreatGp11
import Derived.Test.YtkmbnghghbfkdaaGreatGp07
import Derived.Test.YtkmbnghghbfkdaaGreatGp09
import Derived.OpenShut
import Derived.ChangeSame
import Derived.Test.YtkmbnghghbfkdaaGreatGp03
import Derived.Test.YtkmbnghghbfkdaaGreatProg
import Derived.Laws.RangeAny
import Derived.Test.YtkmbnghghbfkdaaGreatGpSh
import Derived.Test.YtkmbnghghbfkdaaGreatGp01
set_option linter.unusedSimpArgs false
set_option linter.unusedVariables false
set_option maxHeartbeats 2000000
set_option maxRecDepth 100000
namespace Go.Proofs.YtkmbnghghbfkdaaGreat
open Go.Lib (hid)

section
open Go.RowKit Go.Shelf Go.Sort
end

/- Does the layer do anything? -/
section
open Go.RowKit Go.Shelf Go.Sort
attribute [local go_sem] Oper.semAt_some wide_fn wide_depth
theorem dputF_new {T:List ByteArray} {S:List Int} {s:ByteArray} (h:TabOK T S) (hS:S.length ≤ 4096) (hf:findF T s < 0) (hl:T.length < 128):∃ S',dputF T S s = some (T ++ [s],S',(T.length:Int)) ∧ TabOK (T ++ [s]) S' ∧ S'.length ≤ 4096:=by
 have hp:putF T S s = some (T ++ [s],laidN (T ++ [s]) (moreN T S.length) (T.length + 1),(T.length:Int)):=by
  unfold putF
  rw [if_neg (by omega),if_neg (by omega)]
 obtain ⟨h1,_,h3,_⟩:=putF_ok h hp
 refine ⟨_,?_,h1,by omega⟩
 unfold dputF
 rw [if_neg (by omega),hp]
theorem DicOK.upd {D:Dic} (h:DicOK D) {k:Nat} {t:List ByteArray × List Int} (hk:KindOK k t):DicOK (upd D k t):=fun i hi=>by
 by_cases e:i = k
 ·subst e;rw [upd_at];exact hk
 ·rw [upd_ne _ _ e];exact h i hi
theorem DicOK.sizes {D:Dic} (h:DicOK D) (hS:∀ i,i < 5 → (D i).2.length ≤ 4096):DicS D:=fun i hi=>⟨by have:=(h i hi).2.1;omega,hS i hi,fun s hs=>by have:=(h.small i hi).2 s hs;omega⟩
theorem newD_ok:DicOK newD:=fun i hi=>⟨tabOK_new,by simp [newD],rfl⟩
theorem newD_s:∀ i,i < 5 → (newD i).2.length ≤ 4096:=fun i hi=>by simp [newD]
def annS:ByteArray:=⟨#[97,110,110]⟩
def bobS:ByteArray:=⟨#[98,111,98]⟩
theorem dPut_ok {D D':Dic} {kind n:Int} {s:ByteArray} (h:putD D kind s = .ok (D',n)) (vs:Nat → Value × Value) (w:World) (hV:DicV w vs D) (hS:DicS D) (hs:s.size ≤ 9223372036854775807) (hok:DicOK D) :
 Calls Tryz.prog 18 #[dv vs,.int .i64 kind,.string s] w fun e w'=>∃ A:Heads,e = .returned (.tuple #[dv (hv A),.int .i64 n,.int .i64 0]) ∧ DicOwn w.heap.size w' (hv A) D' ∧ Ext w w' :=
 (dPut_all vs D kind s w hV hS hs true ⟨fun _=>hok,fun _=>rfl⟩).mono fun e w' ⟨hx,hm⟩=>by
  rw [if_pos rfl,h] at hm
  obtain ⟨us,he,hu⟩:=hm
  obtain ⟨A,hA1,hA2⟩:=heads (vs:=us) (fun i hi=>by obtain ⟨a,c,b,d,e,_⟩:=(hu i hi).pair;exact ⟨_,_,_,_,_,_,e⟩)
  exact ⟨A,by rw [he,show dv us = dv (hv A) from by unfold dv;rw [hA2]],fun i hi=>by rw [← hA1 i hi];exact hu i hi,hx⟩
end

/- Contracts in the laws' own words. -/
section
open Go.RowKit Go.Shelf Go.Sort
attribute [local go_sem] Oper.semAt_some wide_fn wide_depth
theorem cutD_s {D:Dic} (h:∀ i,i < 5 → ∀ s ∈ (D i).1,s.size ≤ 9223372036854775807):DicS (cutD D):=fun i hi=>⟨by unfold cutD;simp;omega,by unfold cutD;simp;omega,fun s hs=>h i hi s (List.mem_of_mem_take hs)⟩
end

/- An argument that is a dictionary. -/
section
open Go.ChangeShapes Go.WideShapes Go.ChangeAt Go.RowKit Go.Deep Go.Joins
theorem ten {α:Type} {cs:Array α} (h:cs.size = 10):∃ c0 c1 c2 c3 c4 c5 c6 c7 c8 c9,cs = #[c0,c1,c2,c3,c4,c5,c6,c7,c8,c9]:=by
 obtain ⟨l⟩:=cs
 match l,h with
 | [c0,c1,c2,c3,c4,c5,c6,c7,c8,c9],_=>exact ⟨c0,c1,c2,c3,c4,c5,c6,c7,c8,c9,rfl⟩
theorem open_tab {H:Type} {enc:TypeId × Value → H} {w:World} {base:Nat} {spare:Nat → Bool} {held:Bool} {m:Nat} {x y:Value} {z:DataW H × List MemPlace}
 (h:DataW.trod enc Tryz.prog w base spare held m 25 [x,y] = some z):∃ T S,TabV w (x,y) (T,S) ∧ ∀ s ∈ T,s.size ≤ 9223372036854775807:=by
 obtain ⟨y0,y1,n,_,_,h0,h1⟩:=trod_struct2 Tryz.underlying25 h
 have h0':DataW.trod enc Tryz.prog w base spare held n 22 [x] = some y0:=h0
 have h1':DataW.trod enc Tryz.prog w base spare held n 23 [y] = some y1:=h1
 obtain ⟨a,len,cap,rfl⟩:=trod_slice_shape Tryz.underlying22 h0'
 obtain ⟨b,len',cap',rfl⟩:=trod_slice_shape Tryz.underlying23 h1'
 obtain ⟨T,hT,hTs⟩:=open_Strs (d:=y0.1) (p:=y0.2) Tryz.underlying22 Tryz.underlying9 (by kernel_rfl) ⟨n,by simpa [Value.cells] using h0'⟩
 obtain ⟨S,hS,_⟩:=open_Ints (d:=y1.1) (p:=y1.2) Tryz.underlying23 Tryz.underlying3 (by kernel_rfl) ⟨n,by simpa [Value.cells] using h1'⟩
 exact ⟨T,S,⟨_,_,_,_,_,_,rfl,hT,hS⟩,hTs⟩
theorem open_dict {H:Type} {enc:TypeId × Value → H} {w:World} {M:Reach} {base base':Nat} {spare:Nat → Bool} {held:Bool} {v:Value} {d:DataW H} {p:List MemPlace}
 (ho:Value.okWide Tryz.prog w M base' 28 v) (h:DataW.Trod enc Tryz.prog w base spare held 28 v d p) :
 ∃ D vs,v = dv vs ∧ DicV w vs D ∧ ∀ i,i < 5 → ∀ s ∈ (D i).1,s.size ≤ 9223372036854775807:=by
 obtain ⟨cs,rfl,hsz⟩:=okWide_struct Tryz.underlying28 ho
 have hC:Tryz.prog.cellsOf 28 = 10:=by kernel_rfl
 obtain ⟨c0,c1,c2,c3,c4,c5,c6,c7,c8,c9,rfl⟩:=ten (hsz.trans hC)
 obtain ⟨fuel,hf⟩:=h
 obtain ⟨y0,n,_,_,h0⟩:=trod_struct1 Tryz.underlying28 hf
 have hA:Tryz.prog.cellsOf 26 = 10:=by kernel_rfl
 have hT:Tryz.prog.cellsOf 25 = 2:=by kernel_rfl
 rw [hA] at h0
 have h0':DataW.trod enc Tryz.prog w base spare held n 26 [c0,c1,c2,c3,c4,c5,c6,c7,c8,c9] = some y0:=h0
 obtain ⟨xs,m,_,_,_,hl,hx⟩:=DataW.trod_array Tryz.underlying26 h0'
 rw [hT] at hx
 have hg:∀ i,i < 5 → ∃ z,xs[i]? = some z:=fun i hi=>⟨xs[i]'(by omega),List.getElem?_eq_getElem _⟩
 obtain ⟨z0,e0⟩:=hg 0 (by omega)
 obtain ⟨z1,e1⟩:=hg 1 (by omega)
 obtain ⟨z2,e2⟩:=hg 2 (by omega)
 obtain ⟨z3,e3⟩:=hg 3 (by omega)
 obtain ⟨z4,e4⟩:=hg 4 (by omega)
 obtain ⟨T0,S0,t0,s0⟩:=open_tab (x:=c0) (y:=c1) ((hx 0 (by omega)).trans e0)
 obtain ⟨T1,S1,t1,s1⟩:=open_tab (x:=c2) (y:=c3) ((hx 1 (by omega)).trans e1)
 obtain ⟨T2,S2,t2,s2⟩:=open_tab (x:=c4) (y:=c5) ((hx 2 (by omega)).trans e2)
 obtain ⟨T3,S3,t3,s3⟩:=open_tab (x:=c6) (y:=c7) ((hx 3 (by omega)).trans e3)
 obtain ⟨T4,S4,t4,s4⟩:=open_tab (x:=c8) (y:=c9) ((hx 4 (by omega)).trans e4)
 refine ⟨fun i=>match i with | 0=>(T0,S0) | 1=>(T1,S1) | 2=>(T2,S2) | 3=>(T3,S3) | _=>(T4,S4),fun i=>match i with | 0=>(c0,c1) | 1=>(c2,c3) | 2=>(c4,c5) | 3=>(c6,c7) | _=>(c8,c9),rfl,fun i hi=>?_,fun i hi=>?_⟩
 ·have hc:i = 0 ∨ i = 1 ∨ i = 2 ∨ i = 3 ∨ i = 4:=by omega
  rcases hc with rfl | rfl | rfl | rfl | rfl
  ·exact t0
  ·exact t1
  ·exact t2
  ·exact t3
  ·exact t4
 ·have hc:i = 0 ∨ i = 1 ∨ i = 2 ∨ i = 3 ∨ i = 4:=by omega
  rcases hc with rfl | rfl | rfl | rfl | rfl
  ·exact s0
  ·exact s1
  ·exact s2
  ·exact s3
  ·exact s4
end

/- What a pattern's tokens come to: plain, no program in sight. -/
section
structure Atm where
 kind:Int
 fk:Bool
 fn:ByteArray
 name:ByteArray
 value:ByteArray
 tk:Bool
 tn:ByteArray
deriving DecidableEq
structure Pat where
 atoms:List Atm
 ret:List ByteArray
 count:Bool
 distinct:Bool
 limited:Bool
 limit:Int
 offset:Int
 hint:List ByteArray
def noPat:Pat:=⟨[],[],false,false,false,0,0,[]⟩
def nilB:ByteArray:=⟨#[]⟩
structure PS where
 p:Nat
 atoms:List Atm
 vars:List ByteArray
def hasB (s:ByteArray) (l:List ByteArray):Bool:=l.any fun x=>decide (x = s)
theorem hasB_iff {s:ByteArray} {l:List ByteArray}:hasB s l = true ↔ s ∈ l:=by
 unfold hasB
 simp
theorem hasB_no {s:ByteArray} {l:List ByteArray}:hasB s l = false ↔ s ∉ l:=by
 rw [← hasB_iff]
 cases hasB s l <;> simp
def edgesOf (l:List Atm):Nat:=(l.filter fun a=>decide (a.kind = 4)).length
end

/- Letters, blanks; how many a text begins with. -/
section
open Go.RowKit
theorem high_letter (c:Int) (h:128 ≤ c):letterC c = false:=by unfold letterC;exact decide_eq_false (by omega)
theorem high_quoted (c:Int) (h:128 ≤ c):quotedC c = false:=by unfold quotedC;exact decide_eq_false (by omega)
theorem letter_any (c:Int) (w:World):Calls Tryz.prog 157 #[.int .i32 c] w fun e w'=>e = .returned (.bool (letterC c)) ∧ w = w':=by
 go_enter Tryz.func157,Tryz.ntmps157
 go_wp2
 all_goals (go_ret;exact ⟨ret_bool (by unfold letterC;rw [Bool.eq_iff_iff];simp;try omega),rfl⟩)
theorem quoted_any (c:Int) (w:World):Calls Tryz.prog 153 #[.int .i32 c] w fun e w'=>e = .returned (.bool (quotedC c)) ∧ w = w':=by
 go_enter Tryz.func153,Tryz.ntmps153
 go_wp2
 all_goals (go_ret;exact ⟨ret_bool (by unfold quotedC;rw [Bool.eq_iff_iff];simp;try omega),rfl⟩)
theorem span_letter_any (s:ByteArray) (w:World) (hs:s.size ≤ 9223372036854775807) :
 Calls Tryz.prog 152 #[.string s,.func (.func 157) #[] #[]] w fun e w'=>e = .returned (.int .i64 (spanL letterC (bts s))) ∧ Ext w w':=by
 go_enter Tryz.func152,Tryz.ntmps152
 go_wp2_with fail
 go_loopw [4] (fun _ wr=>∃ k:Nat,k ≤ s.size ∧ wr = w.iter s k ∧ spanL letterC (bts s) = k + spanL letterC ((bts s).drop k)) (fun _ wr=>s.size - wr.iterPos w.heap.size)
 case atStart=>exact ⟨0,Nat.zero_le _,rfl,by simp⟩
 case round =>
  obtain ⟨k,hk,rfl,hsp⟩:=hrel
  have Hsp:=hid hsp
  clear hsp
  by_cases hlt:k < s.size
  ·by_cases ha:s[k].toNat < 128
   ·have hnx:=fun ty=>run_next_ascii (P:=Tryz.prog) w s k ty hlt ha
    cases hp:letterC (s[k].toNat:Int) with
    | true =>
     have Hd:=hid (spanL_drop_yes (p:=letterC) hlt hp)
     go_wp2_with (go_at_call 157;refine (letter_any _ _).mono ?_;rintro e w' ⟨rfl,rfl⟩)
     go_roundw
     case rel=>exact ⟨k + 1,by omega,rfl,by rw [Hsp.out,Hd.out];omega⟩
     case measure=>simp;omega
    | false =>
     have Hd:=hid (spanL_drop_no (p:=letterC) hlt hp)
     go_wp2_with (go_at_call 157;refine (letter_any _ _).mono ?_;rintro e w' ⟨rfl,rfl⟩)
     go_ret
     exact ⟨ret_int (by rw [Hsp.out,Hd.out];omega),Ext.alloc _ _⟩
   ·have hnx:=fun ty=>run_next_any (P:=Tryz.prog) w s k ty hlt
    have hp:letterC (s[k].toNat:Int) = false:=high_letter _ (by omega)
    have Hd:=hid (spanL_drop_no (p:=letterC) hlt hp)
    have hp2:letterC ((Utf8.decode s k).1:Int) = false:=high_letter _ (by have:=(decode_high s k hlt (by omega)).1;omega)
    generalize Utf8.decode s k = dk at hnx hp2
    clear hp
    go_wp2_with (go_at_call 157;refine (letter_any _ _).mono ?_;rintro e w' ⟨rfl,rfl⟩)
    go_ret
    exact ⟨ret_int (by rw [Hsp.out,Hd.out];omega),Ext.alloc _ _⟩
  ·have hnx:=fun ty=>run_next_end (P:=Tryz.prog) w s k ty hlt
   have Hd:Hid (spanL letterC ((bts s).drop k) = 0):=hid (by rw [List.drop_eq_nil_of_le (by rw [bts_len];omega)];rfl)
   obtain rfl:s.size = k:=by omega
   go_wp2_with fail
   go_ret
   exact ⟨ret_int (by rw [Hsp.out,Hd.out];omega),Ext.alloc _ _⟩
theorem span_quoted_any (s:ByteArray) (w:World) (hs:s.size ≤ 9223372036854775807) :
 Calls Tryz.prog 152 #[.string s,.func (.func 153) #[] #[]] w fun e w'=>e = .returned (.int .i64 (spanL quotedC (bts s))) ∧ Ext w w':=by
 go_enter Tryz.func152,Tryz.ntmps152
 go_wp2_with fail
 go_loopw [4] (fun _ wr=>∃ k:Nat,k ≤ s.size ∧ wr = w.iter s k ∧ spanL quotedC (bts s) = k + spanL quotedC ((bts s).drop k)) (fun _ wr=>s.size - wr.iterPos w.heap.size)
 case atStart=>exact ⟨0,Nat.zero_le _,rfl,by simp⟩
 case round =>
  obtain ⟨k,hk,rfl,hsp⟩:=hrel
  have Hsp:=hid hsp
  clear hsp
  by_cases hlt:k < s.size
  ·by_cases ha:s[k].toNat < 128
   ·have hnx:=fun ty=>run_next_ascii (P:=Tryz.prog) w s k ty hlt ha
    cases hp:quotedC (s[k].toNat:Int) with
    | true =>
     have Hd:=hid (spanL_drop_yes (p:=quotedC) hlt hp)
     go_wp2_with (go_at_call 153;refine (quoted_any _ _).mono ?_;rintro e w' ⟨rfl,rfl⟩)
     go_roundw
     case rel=>exact ⟨k + 1,by omega,rfl,by rw [Hsp.out,Hd.out];omega⟩
     case measure=>simp;omega
    | false =>
     have Hd:=hid (spanL_drop_no (p:=quotedC) hlt hp)
     go_wp2_with (go_at_call 153;refine (quoted_any _ _).mono ?_;rintro e w' ⟨rfl,rfl⟩)
     go_ret
     exact ⟨ret_int (by rw [Hsp.out,Hd.out];omega),Ext.alloc _ _⟩
   ·have hnx:=fun ty=>run_next_any (P:=Tryz.prog) w s k ty hlt
    have hp:quotedC (s[k].toNat:Int) = false:=high_quoted _ (by omega)
    have Hd:=hid (spanL_drop_no (p:=quotedC) hlt hp)
    have hp2:quotedC ((Utf8.decode s k).1:Int) = false:=high_quoted _ (by have:=(decode_high s k hlt (by omega)).1;omega)
    generalize Utf8.decode s k = dk at hnx hp2
    clear hp
    go_wp2_with (go_at_call 153;refine (quoted_any _ _).mono ?_;rintro e w' ⟨rfl,rfl⟩)
    go_ret
    exact ⟨ret_int (by rw [Hsp.out,Hd.out];omega),Ext.alloc _ _⟩
  ·have hnx:=fun ty=>run_next_end (P:=Tryz.prog) w s k ty hlt
   have Hd:Hid (spanL quotedC ((bts s).drop k) = 0):=hid (by rw [List.drop_eq_nil_of_le (by rw [bts_len];omega)];rfl)
   obtain rfl:s.size = k:=by omega
   go_wp2_with fail
   go_ret
   exact ⟨ret_int (by rw [Hsp.out,Hd.out];omega),Ext.alloc _ _⟩
end

/- Words; what a text begins with: the first three asked. -/
section
open Go.RowKit
theorem word_any (s:ByteArray) (w:World) (hs:s.size ≤ 9223372036854775807) :
 Calls Tryz.prog 148 #[.string s] w fun e w'=>e = .returned (.int .i64 (wordN (bts s))) ∧ Ext w w':=by
 have hl:=spanL_le letterC (bts s)
 rw [bts_len] at hl
 by_cases h:32 < spanL letterC (bts s)
 ·have hd:decide (((spanL letterC (bts s):Nat):Int) > 32) = true:=by simp;omega
  go_enter Tryz.func148,Tryz.ntmps148
  go_wp2_with fail
  refine (span_letter_any s _ hs).mono ?_
  rintro e w' ⟨rfl,hx⟩
  go_wp2_with fail
  go_ret
  exact ⟨ret_int (by unfold wordN;rw [if_pos h];rfl),hx⟩
 ·go_enter Tryz.func148,Tryz.ntmps148
  go_wp2_with fail
  refine (span_letter_any s _ hs).mono ?_
  rintro e w' ⟨rfl,hx⟩
  go_wp2_with fail
  go_ret
  exact ⟨ret_int (by unfold wordN;rw [if_neg h]),hx⟩
theorem hasPre (l:List UInt8) (c:UInt8):Lib.hasPrefix l [c] = decide (l.head? = some c):=by
 cases l with
 | nil=>rfl
 | cons x l=>simp only [Lib.hasPrefix,List.isPrefixOf,Bool.and_true,List.head?_cons,Option.some.injEq];rw [Bool.eq_iff_iff,beq_iff_eq,decide_eq_true_iff];exact eq_comm
theorem cut1_yes (s p r:ByteArray) (w:World) (c:UInt8) (hp:p = ⟨#[c]⟩) (h:bts s = c :: bts r) :
 Calls Tryz.prog 150 #[.string s,.string p] w fun e w'=>e = .returned (.tuple #[.string r,.bool true]) ∧ w = w':=by
 subst hp
 refine (Tryz.strings_CutPrefix s ⟨#[c]⟩ w).mono fun e w' ⟨he,hw⟩=>⟨?_,hw.symm⟩
 rw [he]
 have h':s.data.toList = c :: bts r:=h
 have e1:Lib.hasPrefix s.data.toList [c] = true:=by rw [h',hasPre];simp
 have e2:Lib.trimPrefix s.data.toList [c] = bts r:=by rw [h'];simp [Lib.trimPrefix,hasPre]
 show Ending.returned (.tuple #[.string (txt (Lib.trimPrefix s.data.toList [c])),.bool (Lib.hasPrefix s.data.toList [c])]) = _
 rw [e1,e2,txt_bts]
theorem cut1_no (s p:ByteArray) (w:World) (c:UInt8) (hp:p = ⟨#[c]⟩) (h:(bts s).head? ≠ some c) :
 Calls Tryz.prog 150 #[.string s,.string p] w fun e w'=>e = .returned (.tuple #[.string s,.bool false]) ∧ w = w':=by
 subst hp
 refine (Tryz.strings_CutPrefix s ⟨#[c]⟩ w).mono fun e w' ⟨he,hw⟩=>⟨?_,hw.symm⟩
 rw [he]
 have e1:Lib.hasPrefix s.data.toList [c] = false:=by rw [hasPre];exact decide_eq_false h
 have e2:Lib.trimPrefix s.data.toList [c] = bts s:=by unfold Lib.trimPrefix;rw [e1];rfl
 show Ending.returned (.tuple #[.string (txt (Lib.trimPrefix s.data.toList [c])),.bool (Lib.hasPrefix s.data.toList [c])]) = _
 rw [e1,e2,txt_bts]
theorem starts_any (s p:ByteArray) (w:World) :
 Calls Tryz.prog 154 #[.string s,.string p] w fun e w'=>e = .returned (.bool ((bts p).isPrefixOf (bts s))) ∧ w = w' :=
 (Tryz.strings_HasPrefix s p w).mono fun e w' ⟨he,hw⟩=>⟨he,hw.symm⟩
def tokV (k:Int) (l:List UInt8) (at_:Int):Value:=.agg #[.int .i64 k,.string (txt l),.int .i64 at_]
def begV (b:Beg):Value:=.tuple #[tokV b.1 b.2.1 0,.int .i64 b.2.2]
theorem ask1_any (s:ByteArray) (b:Nat) (w:World) (hs:s.size ≤ 9223372036854775807) (hb:w.cell? ⟨b,0,none⟩ = some (.string s)) :
 Calls Tryz.prog 147 #[.pointer (some ⟨b,0,none⟩)] w fun e w'=>e = .returned (begV (ask1 (bts s))) ∧ Ext w w':=by
 have hn:=wordN_le (bts s)
 rw [bts_len] at hn
 have hr:=RowAt.new w 185 [.int .i64 0,.string ⟨#[]⟩,.int .i64 0]
 have hb1:=ext_cell (Ext.alloc w (.cells #[.int .i64 0,.string ⟨#[]⟩,.int .i64 0] 185)) hb
 go_enter Tryz.func147,Tryz.ntmps147
 go_upto_region 1 with fail
 have hx0:=Ext.alloc w (.cells #[.int .i64 0,.string ⟨#[]⟩,.int .i64 0] 185)
 generalize w.alloc (.cells #[.int .i64 0,.string ⟨#[]⟩,.int .i64 0] 185) = w1 at *
 go_wp2_with fail
 refine (word_any s _ hs).mono ?_
 rintro e w2 ⟨rfl,hx⟩
 have hb2:=ext_cell hx hb1
 obtain ⟨c0,c1,c2,f0,f1,f2⟩:=(hr.ext hx).facts3
 clear hr
 go_wp2_with fail
 exact bodyPost_ret (v:=begV (ask1 (bts s))) (by simp [results,Tryz.results147,go_sem,c0,c1,c2,begV,tokV,ask1,extract_txt]) rfl ⟨rfl,(by repeat (first | exact Ext.refl _ | with_reducible assumption | with_reducible refine Ext.alloc_of ?_ _ | with_reducible refine Ext.drewN_of ?_ _ | with_reducible refine Ext.drew_of ?_ | (with_reducible refine Ext.set_of ?_ ?hsz _;case hsz=>((first | exact Nat.le_refl _ | omega | (simp;omega)))) | with_reducible refine Ext.via (by assumption) ?_))⟩
theorem ask2_no (s:ByteArray) (b:Nat) (w:World) (hs:s.size ≤ 9223372036854775807) (hb:w.cell? ⟨b,0,none⟩ = some (.string s)) (h:(bts s).head? ≠ some 64) :
 Calls Tryz.prog 149 #[.pointer (some ⟨b,0,none⟩)] w fun e w'=>e = .returned (begV begNo) ∧ Ext w w':=by
 have hr:=RowAt.new w 185 [.int .i64 0,.string ⟨#[]⟩,.int .i64 0]
 have hb1:=ext_cell (Ext.alloc w (.cells #[.int .i64 0,.string ⟨#[]⟩,.int .i64 0] 185)) hb
 go_enter Tryz.func149,Tryz.ntmps149
 go_upto_region 1 with fail
 have hx0:=Ext.alloc w (.cells #[.int .i64 0,.string ⟨#[]⟩,.int .i64 0] 185)
 generalize w.alloc (.cells #[.int .i64 0,.string ⟨#[]⟩,.int .i64 0] 185) = w1 at *
 go_wp2_with fail
 refine (cut1_no s _ _ 64 rfl h).mono ?_
 rintro e w' ⟨rfl,rfl⟩
 go_wp2_with fail
 refine (word_any s _ hs).mono ?_
 rintro e w2 ⟨rfl,hx⟩
 obtain ⟨c0,c1,c2,f0,f1,f2⟩:=(hr.ext hx).facts3
 clear hr
 go_wp2_with fail
 exact bodyPost_ret (v:=begV begNo) (by simp [results,Tryz.results149,go_sem,c0,c1,c2,begV,tokV,begNo,txt]) rfl ⟨rfl,(by repeat (first | exact Ext.refl _ | with_reducible assumption | with_reducible refine Ext.alloc_of ?_ _ | with_reducible refine Ext.drewN_of ?_ _ | with_reducible refine Ext.drew_of ?_ | (with_reducible refine Ext.set_of ?_ ?hsz _;case hsz=>((first | exact Nat.le_refl _ | omega | (simp;omega)))) | with_reducible refine Ext.via (by assumption) ?_))⟩
theorem ask2_nil {r:ByteArray} (hd:((wordN (bts r):Nat):Int) == 0) (s:ByteArray) (b:Nat) (w:World) (hs:s.size ≤ 9223372036854775807) (hb:w.cell? ⟨b,0,none⟩ = some (.string s)) (h:bts s = 64 :: bts r) :
 Calls Tryz.prog 149 #[.pointer (some ⟨b,0,none⟩)] w fun e w'=>e = .returned (begV begNo) ∧ Ext w w':=by
 have hr:=RowAt.new w 185 [.int .i64 0,.string ⟨#[]⟩,.int .i64 0]
 have hb1:=ext_cell (Ext.alloc w (.cells #[.int .i64 0,.string ⟨#[]⟩,.int .i64 0] 185)) hb
 go_enter Tryz.func149,Tryz.ntmps149
 go_upto_region 1 with fail
 have hx0:=Ext.alloc w (.cells #[.int .i64 0,.string ⟨#[]⟩,.int .i64 0] 185)
 generalize w.alloc (.cells #[.int .i64 0,.string ⟨#[]⟩,.int .i64 0] 185) = w1 at *
 go_wp2_with fail
 have hrs:r.size ≤ 9223372036854775807:=by have:=congrArg List.length h;simp only [List.length_cons,bts_len] at this;omega
 refine (cut1_yes s _ r _ 64 rfl h).mono ?_
 rintro e w' ⟨rfl,rfl⟩
 go_wp2_with fail
 refine (word_any r _ hrs).mono ?_
 rintro e w2 ⟨rfl,hx⟩
 obtain ⟨c0,c1,c2,f0,f1,f2⟩:=(hr.ext hx).facts3
 clear hr
 go_wp2_with fail
 exact bodyPost_ret (v:=begV begNo) (by simp [results,Tryz.results149,go_sem,c0,c1,c2,begV,tokV,begNo,txt]) rfl ⟨rfl,(by repeat (first | exact Ext.refl _ | with_reducible assumption | with_reducible refine Ext.alloc_of ?_ _ | with_reducible refine Ext.drewN_of ?_ _ | with_reducible refine Ext.drew_of ?_ | (with_reducible refine Ext.set_of ?_ ?hsz _;case hsz=>((first | exact Nat.le_refl _ | omega | (simp;omega)))) | with_reducible refine Ext.via (by assumption) ?_))⟩
theorem ask2_yes {r:ByteArray} (hd:(((wordN (bts r):Nat):Int) == 0) = false) (s:ByteArray) (b:Nat) (w:World) (hs:s.size ≤ 9223372036854775807) (hb:w.cell? ⟨b,0,none⟩ = some (.string s)) (h:bts s = 64 :: bts r) :
 Calls Tryz.prog 149 #[.pointer (some ⟨b,0,none⟩)] w fun e w'=>e = .returned (begV (2,(bts r).take (wordN (bts r)),wordN (bts r) + 1)) ∧ Ext w w':=by
 have hr:=RowAt.new w 185 [.int .i64 0,.string ⟨#[]⟩,.int .i64 0]
 have hb1:=ext_cell (Ext.alloc w (.cells #[.int .i64 0,.string ⟨#[]⟩,.int .i64 0] 185)) hb
 go_enter Tryz.func149,Tryz.ntmps149
 go_upto_region 1 with fail
 have hx0:=Ext.alloc w (.cells #[.int .i64 0,.string ⟨#[]⟩,.int .i64 0] 185)
 generalize w.alloc (.cells #[.int .i64 0,.string ⟨#[]⟩,.int .i64 0] 185) = w1 at *
 go_wp2_with fail
 have hrs:r.size ≤ 9223372036854775807:=by have:=congrArg List.length h;simp only [List.length_cons,bts_len] at this;omega
 have hn:=wordN_le (bts r)
 rw [bts_len] at hn
 have hn32:wordN (bts r) ≤ 32:=by unfold wordN;split <;> omega
 refine (cut1_yes s _ r _ 64 rfl h).mono ?_
 rintro e w' ⟨rfl,rfl⟩
 go_wp2_with fail
 refine (word_any r _ hrs).mono ?_
 rintro e w2 ⟨rfl,hx⟩
 obtain ⟨c0,c1,c2,f0,f1,f2⟩:=(hr.ext hx).facts3
 clear hr
 go_wp2_with fail
 exact bodyPost_ret (v:=begV (2,(bts r).take (wordN (bts r)),wordN (bts r) + 1)) (by simp [results,Tryz.results149,go_sem,c0,c1,c2,begV,tokV,extract_txt]) rfl ⟨rfl,(by repeat (first | exact Ext.refl _ | with_reducible assumption | with_reducible refine Ext.alloc_of ?_ _ | with_reducible refine Ext.drewN_of ?_ _ | with_reducible refine Ext.drew_of ?_ | (with_reducible refine Ext.set_of ?_ ?hsz _;case hsz=>((first | exact Nat.le_refl _ | omega | (simp;omega)))) | with_reducible refine Ext.via (by assumption) ?_))⟩
theorem ask2_any (s:ByteArray) (b:Nat) (w:World) (hs:s.size ≤ 9223372036854775807) (hb:w.cell? ⟨b,0,none⟩ = some (.string s)) :
 Calls Tryz.prog 149 #[.pointer (some ⟨b,0,none⟩)] w fun e w'=>e = .returned (begV (ask2 (bts s))) ∧ Ext w w':=by
 cases hl:bts s with
 | nil=>exact ask2_no s b w hs hb (by rw [hl];simp)
 | cons c r =>
  by_cases hc:c = 64
  ·subst hc
   have h:bts s = 64 :: bts (txt r):=by rw [hl,bts_txt]
   by_cases hn:wordN r = 0
   ·have:=ask2_nil (r:=txt r) (by rw [bts_txt,hn];rfl) s b w hs hb h
    simpa [ask2,hn] using this
   ·have:=ask2_yes (r:=txt r) (by rw [bts_txt];simp;omega) s b w hs hb h
    rw [bts_txt] at this
    simpa [ask2,hn] using this
  ·have:=ask2_no s b w hs hb (by rw [hl];simpa using hc)
   simpa [ask2,hc] using this
theorem starts_eq (s p:ByteArray) (w:World) {r:Bool} (h:(bts p).isPrefixOf (bts s) = r) :
 Calls Tryz.prog 154 #[.string s,.string p] w fun e w'=>e = .returned (.bool r) ∧ w = w':=h ▸ starts_any s p w
theorem ask3_no (s:ByteArray) (b:Nat) (w:World) (hs:s.size ≤ 9223372036854775807) (hb:w.cell? ⟨b,0,none⟩ = some (.string s)) (h:(bts s).head? ≠ some 34) :
 Calls Tryz.prog 151 #[.pointer (some ⟨b,0,none⟩)] w fun e w'=>e = .returned (begV begNo) ∧ Ext w w':=by
 have hr:=RowAt.new w 185 [.int .i64 0,.string ⟨#[]⟩,.int .i64 0]
 have hb1:=ext_cell (Ext.alloc w (.cells #[.int .i64 0,.string ⟨#[]⟩,.int .i64 0] 185)) hb
 go_enter Tryz.func151,Tryz.ntmps151
 go_upto_region 1 with fail
 have hx0:=Ext.alloc w (.cells #[.int .i64 0,.string ⟨#[]⟩,.int .i64 0] 185)
 generalize w.alloc (.cells #[.int .i64 0,.string ⟨#[]⟩,.int .i64 0] 185) = w1 at *
 go_wp2_with fail
 refine (cut1_no s _ _ 34 rfl h).mono ?_
 rintro e w' ⟨rfl,rfl⟩
 go_wp2_with fail
 refine (span_quoted_any s _ hs).mono ?_
 rintro e w2 ⟨rfl,hx⟩
 obtain ⟨c0,c1,c2,f0,f1,f2⟩:=(hr.ext hx).facts3
 clear hr
 go_wp2_with fail
 exact bodyPost_ret (v:=begV begNo) (by simp [results,Tryz.results151,go_sem,c0,c1,c2,begV,tokV,begNo,txt]) rfl ⟨rfl,(by repeat (first | exact Ext.refl _ | with_reducible assumption | with_reducible refine Ext.alloc_of ?_ _ | with_reducible refine Ext.drewN_of ?_ _ | with_reducible refine Ext.drew_of ?_ | (with_reducible refine Ext.set_of ?_ ?hsz _;case hsz=>((first | exact Nat.le_refl _ | omega | (simp;omega)))) | with_reducible refine Ext.via (by assumption) ?_))⟩
theorem ask3_long {r:ByteArray} (hd:40 < spanL quotedC (bts r)) (s:ByteArray) (b:Nat) (w:World) (hs:s.size ≤ 9223372036854775807) (hb:w.cell? ⟨b,0,none⟩ = some (.string s)) (h:bts s = 34 :: bts r) :
 Calls Tryz.prog 151 #[.pointer (some ⟨b,0,none⟩)] w fun e w'=>e = .returned (begV begNo) ∧ Ext w w':=by
 have hr:=RowAt.new w 185 [.int .i64 0,.string ⟨#[]⟩,.int .i64 0]
 have hb1:=ext_cell (Ext.alloc w (.cells #[.int .i64 0,.string ⟨#[]⟩,.int .i64 0] 185)) hb
 go_enter Tryz.func151,Tryz.ntmps151
 go_upto_region 1 with fail
 have hx0:=Ext.alloc w (.cells #[.int .i64 0,.string ⟨#[]⟩,.int .i64 0] 185)
 generalize w.alloc (.cells #[.int .i64 0,.string ⟨#[]⟩,.int .i64 0] 185) = w1 at *
 go_wp2_with fail
 have hrs:r.size ≤ 9223372036854775807:=by have:=congrArg List.length h;simp only [List.length_cons,bts_len] at this;omega
 refine (cut1_yes s _ r _ 34 rfl h).mono ?_
 rintro e w' ⟨rfl,rfl⟩
 go_wp2_with fail
 refine (span_quoted_any r _ hrs).mono ?_
 rintro e w2 ⟨rfl,hx⟩
 obtain ⟨c0,c1,c2,f0,f1,f2⟩:=(hr.ext hx).facts3
 clear hr
 go_wp2_with fail
 exact bodyPost_ret (v:=begV begNo) (by simp [results,Tryz.results151,go_sem,c0,c1,c2,begV,tokV,begNo,txt]) rfl ⟨rfl,(by repeat (first | exact Ext.refl _ | with_reducible assumption | with_reducible refine Ext.alloc_of ?_ _ | with_reducible refine Ext.drewN_of ?_ _ | with_reducible refine Ext.drew_of ?_ | (with_reducible refine Ext.set_of ?_ ?hsz _;case hsz=>((first | exact Nat.le_refl _ | omega | (simp;omega)))) | with_reducible refine Ext.via (by assumption) ?_))⟩
theorem ask3_open {r:ByteArray} (hd:spanL quotedC (bts r) ≤ 40) (hq:(bts ⟨#[34]⟩).isPrefixOf (bts (r.extract (spanL quotedC (bts r)) r.size)) = false) (s:ByteArray) (b:Nat) (w:World) (hs:s.size ≤ 9223372036854775807) (hb:w.cell? ⟨b,0,none⟩ = some (.string s)) (h:bts s = 34 :: bts r) :
 Calls Tryz.prog 151 #[.pointer (some ⟨b,0,none⟩)] w fun e w'=>e = .returned (begV begNo) ∧ Ext w w':=by
 have hr:=RowAt.new w 185 [.int .i64 0,.string ⟨#[]⟩,.int .i64 0]
 have hb1:=ext_cell (Ext.alloc w (.cells #[.int .i64 0,.string ⟨#[]⟩,.int .i64 0] 185)) hb
 go_enter Tryz.func151,Tryz.ntmps151
 go_upto_region 1 with fail
 have hx0:=Ext.alloc w (.cells #[.int .i64 0,.string ⟨#[]⟩,.int .i64 0] 185)
 generalize w.alloc (.cells #[.int .i64 0,.string ⟨#[]⟩,.int .i64 0] 185) = w1 at *
 go_wp2_with fail
 have hrs:r.size ≤ 9223372036854775807:=by have:=congrArg List.length h;simp only [List.length_cons,bts_len] at this;omega
 have hn:=spanL_le quotedC (bts r)
 rw [bts_len] at hn
 refine (cut1_yes s _ r _ 34 rfl h).mono ?_
 rintro e w' ⟨rfl,rfl⟩
 go_wp2_with fail
 refine (span_quoted_any r _ hrs).mono ?_
 rintro e w2 ⟨rfl,hx⟩
 obtain ⟨c0,c1,c2,f0,f1,f2⟩:=(hr.ext hx).facts3
 clear hr
 go_wp2_with fail
 refine (starts_eq _ _ _ hq).mono ?_
 rintro e w' ⟨rfl,rfl⟩
 go_wp2_with fail
 exact bodyPost_ret (v:=begV begNo) (by simp [results,Tryz.results151,go_sem,c0,c1,c2,begV,tokV,begNo,txt]) rfl ⟨rfl,(by repeat (first | exact Ext.refl _ | with_reducible assumption | with_reducible refine Ext.alloc_of ?_ _ | with_reducible refine Ext.drewN_of ?_ _ | with_reducible refine Ext.drew_of ?_ | (with_reducible refine Ext.set_of ?_ ?hsz _;case hsz=>((first | exact Nat.le_refl _ | omega | (simp;omega)))) | with_reducible refine Ext.via (by assumption) ?_))⟩
theorem ask3_yes {r:ByteArray} (hd:spanL quotedC (bts r) ≤ 40) (hq:(bts ⟨#[34]⟩).isPrefixOf (bts (r.extract (spanL quotedC (bts r)) r.size)) = true) (s:ByteArray) (b:Nat) (w:World) (hs:s.size ≤ 9223372036854775807) (hb:w.cell? ⟨b,0,none⟩ = some (.string s)) (h:bts s = 34 :: bts r) :
 Calls Tryz.prog 151 #[.pointer (some ⟨b,0,none⟩)] w fun e w'=>e = .returned (begV (3,(bts r).take (spanL quotedC (bts r)),spanL quotedC (bts r) + 2)) ∧ Ext w w':=by
 have hr:=RowAt.new w 185 [.int .i64 0,.string ⟨#[]⟩,.int .i64 0]
 have hb1:=ext_cell (Ext.alloc w (.cells #[.int .i64 0,.string ⟨#[]⟩,.int .i64 0] 185)) hb
 go_enter Tryz.func151,Tryz.ntmps151
 go_upto_region 1 with fail
 have hx0:=Ext.alloc w (.cells #[.int .i64 0,.string ⟨#[]⟩,.int .i64 0] 185)
 generalize w.alloc (.cells #[.int .i64 0,.string ⟨#[]⟩,.int .i64 0] 185) = w1 at *
 go_wp2_with fail
 have hrs:r.size ≤ 9223372036854775807:=by have:=congrArg List.length h;simp only [List.length_cons,bts_len] at this;omega
 have hn:=spanL_le quotedC (bts r)
 rw [bts_len] at hn
 refine (cut1_yes s _ r _ 34 rfl h).mono ?_
 rintro e w' ⟨rfl,rfl⟩
 go_wp2_with fail
 refine (span_quoted_any r _ hrs).mono ?_
 rintro e w2 ⟨rfl,hx⟩
 obtain ⟨c0,c1,c2,f0,f1,f2⟩:=(hr.ext hx).facts3
 clear hr
 go_wp2_with fail
 refine (starts_eq _ _ _ hq).mono ?_
 rintro e w' ⟨rfl,rfl⟩
 go_wp2_with fail
 exact bodyPost_ret (v:=begV (3,(bts r).take (spanL quotedC (bts r)),spanL quotedC (bts r) + 2)) (by simp [results,Tryz.results151,go_sem,c0,c1,c2,begV,tokV,extract_txt]) rfl ⟨rfl,(by repeat (first | exact Ext.refl _ | with_reducible assumption | with_reducible refine Ext.alloc_of ?_ _ | with_reducible refine Ext.drewN_of ?_ _ | with_reducible refine Ext.drew_of ?_ | (with_reducible refine Ext.set_of ?_ ?hsz _;case hsz=>((first | exact Nat.le_refl _ | omega | (simp;omega)))) | with_reducible refine Ext.via (by assumption) ?_))⟩
theorem quote_at (r:List UInt8) (n:Nat) (hn:n ≤ r.length):(bts ⟨#[34]⟩).isPrefixOf (bts ((txt r).extract n (txt r).size)) = decide (r[n]? = some 34):=by
 rw [bts_extract,bts_txt,txt_size,List.take_of_length_le (by simp)]
 have:=hasPre (r.drop n) 34
 rw [List.head?_drop] at this
 exact this
theorem ask3_any (s:ByteArray) (b:Nat) (w:World) (hs:s.size ≤ 9223372036854775807) (hb:w.cell? ⟨b,0,none⟩ = some (.string s)) :
 Calls Tryz.prog 151 #[.pointer (some ⟨b,0,none⟩)] w fun e w'=>e = .returned (begV (ask3 (bts s))) ∧ Ext w w':=by
 cases hl:bts s with
 | nil=>exact ask3_no s b w hs hb (by rw [hl];simp)
 | cons c r =>
  by_cases hc:c = 34
  ·subst hc
   have h:bts s = 34 :: bts (txt r):=by rw [hl,bts_txt]
   have hq:=quote_at r _ (spanL_le quotedC r)
   by_cases hn:spanL quotedC r ≤ 40
   ·by_cases h34:r[spanL quotedC r]? = some 34
    ·rw [decide_eq_true h34] at hq
     have:=ask3_yes (r:=txt r) (by rw [bts_txt];exact hn) (by rw [bts_txt r];exact hq) s b w hs hb h
     rw [bts_txt] at this
     simpa [ask3,hn,h34] using this
    ·rw [decide_eq_false h34] at hq
     have:=ask3_open (r:=txt r) (by rw [bts_txt];exact hn) (by rw [bts_txt r];exact hq) s b w hs hb h
     simpa [ask3,hn,h34] using this
   ·have:=ask3_long (r:=txt r) (by rw [bts_txt];omega) s b w hs hb h
    simpa [ask3,hn] using this
  ·have:=ask3_no s b w hs hb (by rw [hl];simpa using hc)
   simpa [ask3,hc] using this
end

end Go.Proofs.YtkmbnghghbfkdaaGreat
