/- Names of kinds. -/
import Derived.Test.YtkmbnghghbfkdaaGreatGp03
import Derived.Test.YtkmbnghghbfkdaaGreatGp02
import Derived.Test.YtkmbnghghbfkdaaGreatGp01
import Derived.Test.YtkmbnghghbfkdaaGreatProg
import Derived.Laws.RangeAny
set_option linter.unusedSimpArgs false
set_option linter.unusedVariables false
set_option maxHeartbeats 2000000
set_option maxRecDepth 100000
namespace Go.Proofs.YtkmbnghghbfkdaaGreat
open Go.Lib (hid)

section
open Go.RowKit
theorem dhigh_letter (c:Int) (h:128 ≤ c):letterC c = false:=by unfold letterC;exact decide_eq_false (by omega)
theorem dhigh_quoted (c:Int) (h:128 ≤ c):quotedC c = false:=by unfold quotedC;exact decide_eq_false (by omega)
def dallB (p:Int → Bool) (lo hi:Nat) (l:List UInt8):Bool:=decide (spanL p l = l.length) && (decide (lo ≤ l.length) && decide (l.length ≤ hi))
def nameB (l:List UInt8):Bool:=dallB letterC 1 32 l
def dworthB (l:List UInt8):Bool:=dallB quotedC 0 40 l
def mayB (k:Int) (l:List UInt8):Bool:=decide (0 ≤ k) && (decide (k ≤ 4) && (if k = 4 then dworthB l else nameB l))
theorem plain_any (c:Int) (w:World):Calls Tryz.prog 131 #[.int .i32 c] w fun e w'=>e = .returned (.bool (letterC c)) ∧ w = w':=by
 go_enter Tryz.func131,Tryz.ntmps131
 go_wp2
 all_goals (go_ret;exact ⟨ret_bool (by unfold letterC;rw [Bool.eq_iff_iff];simp;try omega),rfl⟩)
theorem worth_any (c:Int) (w:World):Calls Tryz.prog 132 #[.int .i32 c] w fun e w'=>e = .returned (.bool (quotedC c)) ∧ w = w':=by
 go_enter Tryz.func132,Tryz.ntmps132
 go_wp2
 all_goals (go_ret;exact ⟨ret_bool (by unfold quotedC;rw [Bool.eq_iff_iff];simp;try omega),rfl⟩)
theorem known_any (k:Int) (w:World):Calls Tryz.prog 99 #[.int .i64 k] w fun e w'=>e = .returned (.bool (decide (0 ≤ k) && decide (k < 5))) ∧ w = w':=by
 go_enter Tryz.func99,Tryz.ntmps99
 go_wp2
 all_goals (go_ret;exact ⟨ret_bool (by rw [Bool.eq_iff_iff];simp;try omega),rfl⟩)
def rulesV:Value:=.agg #[.int .i64 1,.int .i64 32,.func (.func 131) #[] #[],.int .i64 1,.int .i64 32,.func (.func 131) #[] #[],.int .i64 1,.int .i64 32,.func (.func 131) #[] #[],.int .i64 1,.int .i64 32,.func (.func 131) #[] #[],.int .i64 0,.int .i64 40,.func (.func 132) #[] #[]]
theorem rules_any (w:World):Calls Tryz.prog 100 #[] w fun e w'=>e = .returned rulesV ∧ Ext w w':=by
 go_enter Tryz.func100,Tryz.ntmps100
 go_wp2_with fail
 exact bodyPost_ret (v:=rulesV) (by simp [results,Tryz.results100,go_sem,rulesV]) rfl ⟨rfl,Ext.alloc _ _⟩
end

/- May it be a name of a kind? -/
section
open Go.RowKit
theorem iter_row {w:World} {s:ByteArray} {k b:Nat} {t:TypeId} {xs:List Value} (h:RowAt w b t xs):RowAt (w.iter s k) b t xs:=h.ext (Ext.alloc _ _)
theorem may_0 (s:ByteArray) (w:World) (hs:s.size ≤ 9223372036854775807) :
 Calls Tryz.prog 56 #[.int .i64 0,.string s] w fun e w'=>e = .returned (.bool (nameB (bts s))) ∧ Ext w w':=by
 have ix:∀ w,(Instr.index 163 rulesV (.int .i64 0)).run Tryz.prog w = .ok (.agg #[.int .i64 1,.int .i64 32,.func (.func 131) #[] #[]]) w:=fun _=>rfl
 go_enter Tryz.func56,Tryz.ntmps56
 go_wp2_with fail
 go_step3
 go_wp2_with fail
 refine (known_any 0 _).mono ?_
 rintro e w' ⟨rfl,rfl⟩
 go_wp2_with fail
 refine (rules_any _).mono ?_
 rintro e w1 ⟨rfl,hx1⟩
 have hbx:=RowAt.new w1 162 [.int .i64 1,.int .i64 32,.func (.func 131) #[] #[]]
 go_upto_region 4 with fail
 have hx2:=Ext.alloc w1 (.cells #[.int .i64 1,.int .i64 32,.func (.func 131) #[] #[]] 162)
 generalize w1.alloc (.cells #[.int .i64 1,.int .i64 32,.func (.func 131) #[] #[]] 162) = w2 at *
 obtain ⟨c0,c1,c2,g0,g1,g2⟩:=hbx.facts3
 have HX:=hid (hx1.trans hx2)
 have HBX:=hid hbx
 clear hx1 hx2 hbx
 obtain ⟨ok,hok⟩:∃ ok,ok = (decide (1 ≤ s.size) && decide (s.size ≤ 32)):=⟨_,rfl⟩
 go_cut [6] (fun s6 wx=>s6 = .bool ok ∧ wx = w2)
 case first =>
  by_cases h1:1 ≤ s.size
  ·by_cases h2:s.size ≤ 32
   ·go_wp2_with fail
    go_meet
    exact ⟨congrArg Value.bool (by rw [hok,Bool.eq_iff_iff];simp <;> omega),rfl⟩
   ·go_wp2_with fail
    go_meet
    exact ⟨congrArg Value.bool (by rw [hok,Bool.eq_iff_iff];simp <;> omega),rfl⟩
  ·try (exfalso;omega)
   all_goals
    go_wp2_with fail
    go_meet
    exact ⟨congrArg Value.bool (by rw [hok,Bool.eq_iff_iff];simp <;> omega),rfl⟩
 case rest =>
  obtain ⟨rfl,hwc⟩:=hcut
  rw [hwc]
  clear hwc c0 c1 c2 g0 g1 g2
  have HOK:=hid hok
  clear hok
  go_wp2_with fail
  go_step3
  go_wp2_with fail
  go_loopw [6] (fun v6 wr=>v6 = .bool ok ∧ ∃ k:Nat,k ≤ s.size ∧ wr = w2.iter s k ∧ spanL letterC (bts s) = k + spanL letterC ((bts s).drop k)) (fun _ wr=>s.size - wr.iterPos w2.heap.size)
  case atStart=>exact ⟨rfl,0,Nat.zero_le _,rfl,by simp⟩
  case round =>
   obtain ⟨rfl,k,hk,rfl,hsp⟩:=hrel
   have Hsp:=hid hsp
   clear hsp
   obtain ⟨c0,c1,c2,g0,g1,g2⟩:=(iter_row (s:=s) (k:=k) HBX.out).facts3
   by_cases hlt:k < s.size
   ·by_cases ha:s[k].toNat < 128
    ·have hnx:=fun ty=>run_next_ascii (P:=Tryz.prog) w2 s k ty hlt ha
     cases hp:letterC (s[k].toNat:Int) with
     | true =>
      have Hd:=hid (spanL_drop_yes (p:=letterC) hlt hp)
      obtain ⟨c0,c1,c2,g0,g1,g2⟩:=(iter_row (s:=s) (k:=k + 1) HBX.out).facts3
      go_wp2_with (go_at_call 131;refine (plain_any _ _).mono ?_;rintro e w' ⟨rfl,rfl⟩)
      go_roundw
      case rel=>exact ⟨rfl,k + 1,by omega,rfl,by rw [Hsp.out,Hd.out];omega⟩
      case measure=>simp;omega
     | false =>
      have Hd:=hid (spanL_drop_no (p:=letterC) hlt hp)
      have HF:Hid (dallB letterC 1 32 (bts s) = false):=hid (by unfold dallB;rw [Hsp.out,Hd.out,bts_len,decide_eq_false (by omega)];rfl)
      obtain ⟨c0,c1,c2,g0,g1,g2⟩:=(iter_row (s:=s) (k:=k + 1) HBX.out).facts3
      go_wp2_with (go_at_call 131;refine (plain_any _ _).mono ?_;rintro e w' ⟨rfl,rfl⟩)
      rw [Exit.noGoto_ret]
      go_ret
      exact ⟨ret_bool HF.out.symm,HX.out.trans (Ext.alloc _ _)⟩
    ·have hnx:=fun ty=>run_next_any (P:=Tryz.prog) w2 s k ty hlt
     have hp:letterC (s[k].toNat:Int) = false:=dhigh_letter _ (by omega)
     have Hd:=hid (spanL_drop_no (p:=letterC) hlt hp)
     have HF:Hid (dallB letterC 1 32 (bts s) = false):=hid (by unfold dallB;rw [Hsp.out,Hd.out,bts_len,decide_eq_false (by omega)];rfl)
     have hp2:letterC ((Utf8.decode s k).1:Int) = false:=dhigh_letter _ (by have:=(decode_high s k hlt (by omega)).1;omega)
     generalize Utf8.decode s k = dk at hnx hp2
     clear hp
     obtain ⟨c0,c1,c2,g0,g1,g2⟩:=(iter_row (s:=s) (k:=k + dk.2) HBX.out).facts3
     go_wp2_with (go_at_call 131;refine (plain_any _ _).mono ?_;rintro e w' ⟨rfl,rfl⟩)
     rw [Exit.noGoto_ret]
     go_ret
     exact ⟨ret_bool HF.out.symm,HX.out.trans (Ext.alloc _ _)⟩
   ·have hnx:=fun ty=>run_next_end (P:=Tryz.prog) w2 s k ty hlt
    have Hd:Hid (spanL letterC ((bts s).drop k) = 0):=hid (by rw [List.drop_eq_nil_of_le (by rw [bts_len];omega)];rfl)
    have HF:Hid (dallB letterC 1 32 (bts s) = ok):=hid (by unfold dallB;rw [Hsp.out,Hd.out,HOK.out,bts_len,decide_eq_true (by omega)];rfl)
    obtain rfl:s.size = k:=by omega
    go_wp2_with fail
    rw [Exit.noGoto_ret]
    go_ret
    exact ⟨ret_bool HF.out.symm,HX.out.trans (Ext.alloc _ _)⟩
theorem may_1 (s:ByteArray) (w:World) (hs:s.size ≤ 9223372036854775807) :
 Calls Tryz.prog 56 #[.int .i64 1,.string s] w fun e w'=>e = .returned (.bool (nameB (bts s))) ∧ Ext w w':=by
 have ix:∀ w,(Instr.index 163 rulesV (.int .i64 1)).run Tryz.prog w = .ok (.agg #[.int .i64 1,.int .i64 32,.func (.func 131) #[] #[]]) w:=fun _=>rfl
 go_enter Tryz.func56,Tryz.ntmps56
 go_wp2_with fail
 go_step3
 go_wp2_with fail
 refine (known_any 1 _).mono ?_
 rintro e w' ⟨rfl,rfl⟩
 go_wp2_with fail
 refine (rules_any _).mono ?_
 rintro e w1 ⟨rfl,hx1⟩
 have hbx:=RowAt.new w1 162 [.int .i64 1,.int .i64 32,.func (.func 131) #[] #[]]
 go_upto_region 4 with fail
 have hx2:=Ext.alloc w1 (.cells #[.int .i64 1,.int .i64 32,.func (.func 131) #[] #[]] 162)
 generalize w1.alloc (.cells #[.int .i64 1,.int .i64 32,.func (.func 131) #[] #[]] 162) = w2 at *
 obtain ⟨c0,c1,c2,g0,g1,g2⟩:=hbx.facts3
 have HX:=hid (hx1.trans hx2)
 have HBX:=hid hbx
 clear hx1 hx2 hbx
 obtain ⟨ok,hok⟩:∃ ok,ok = (decide (1 ≤ s.size) && decide (s.size ≤ 32)):=⟨_,rfl⟩
 go_cut [6] (fun s6 wx=>s6 = .bool ok ∧ wx = w2)
 case first =>
  by_cases h1:1 ≤ s.size
  ·by_cases h2:s.size ≤ 32
   ·go_wp2_with fail
    go_meet
    exact ⟨congrArg Value.bool (by rw [hok,Bool.eq_iff_iff];simp <;> omega),rfl⟩
   ·go_wp2_with fail
    go_meet
    exact ⟨congrArg Value.bool (by rw [hok,Bool.eq_iff_iff];simp <;> omega),rfl⟩
  ·try (exfalso;omega)
   all_goals
    go_wp2_with fail
    go_meet
    exact ⟨congrArg Value.bool (by rw [hok,Bool.eq_iff_iff];simp <;> omega),rfl⟩
 case rest =>
  obtain ⟨rfl,hwc⟩:=hcut
  rw [hwc]
  clear hwc c0 c1 c2 g0 g1 g2
  have HOK:=hid hok
  clear hok
  go_wp2_with fail
  go_step3
  go_wp2_with fail
  go_loopw [6] (fun v6 wr=>v6 = .bool ok ∧ ∃ k:Nat,k ≤ s.size ∧ wr = w2.iter s k ∧ spanL letterC (bts s) = k + spanL letterC ((bts s).drop k)) (fun _ wr=>s.size - wr.iterPos w2.heap.size)
  case atStart=>exact ⟨rfl,0,Nat.zero_le _,rfl,by simp⟩
  case round =>
   obtain ⟨rfl,k,hk,rfl,hsp⟩:=hrel
   have Hsp:=hid hsp
   clear hsp
   obtain ⟨c0,c1,c2,g0,g1,g2⟩:=(iter_row (s:=s) (k:=k) HBX.out).facts3
   by_cases hlt:k < s.size
   ·by_cases ha:s[k].toNat < 128
    ·have hnx:=fun ty=>run_next_ascii (P:=Tryz.prog) w2 s k ty hlt ha
     cases hp:letterC (s[k].toNat:Int) with
     | true =>
      have Hd:=hid (spanL_drop_yes (p:=letterC) hlt hp)
      obtain ⟨c0,c1,c2,g0,g1,g2⟩:=(iter_row (s:=s) (k:=k + 1) HBX.out).facts3
      go_wp2_with (go_at_call 131;refine (plain_any _ _).mono ?_;rintro e w' ⟨rfl,rfl⟩)
      go_roundw
      case rel=>exact ⟨rfl,k + 1,by omega,rfl,by rw [Hsp.out,Hd.out];omega⟩
      case measure=>simp;omega
     | false =>
      have Hd:=hid (spanL_drop_no (p:=letterC) hlt hp)
      have HF:Hid (dallB letterC 1 32 (bts s) = false):=hid (by unfold dallB;rw [Hsp.out,Hd.out,bts_len,decide_eq_false (by omega)];rfl)
      obtain ⟨c0,c1,c2,g0,g1,g2⟩:=(iter_row (s:=s) (k:=k + 1) HBX.out).facts3
      go_wp2_with (go_at_call 131;refine (plain_any _ _).mono ?_;rintro e w' ⟨rfl,rfl⟩)
      rw [Exit.noGoto_ret]
      go_ret
      exact ⟨ret_bool HF.out.symm,HX.out.trans (Ext.alloc _ _)⟩
    ·have hnx:=fun ty=>run_next_any (P:=Tryz.prog) w2 s k ty hlt
     have hp:letterC (s[k].toNat:Int) = false:=dhigh_letter _ (by omega)
     have Hd:=hid (spanL_drop_no (p:=letterC) hlt hp)
     have HF:Hid (dallB letterC 1 32 (bts s) = false):=hid (by unfold dallB;rw [Hsp.out,Hd.out,bts_len,decide_eq_false (by omega)];rfl)
     have hp2:letterC ((Utf8.decode s k).1:Int) = false:=dhigh_letter _ (by have:=(decode_high s k hlt (by omega)).1;omega)
     generalize Utf8.decode s k = dk at hnx hp2
     clear hp
     obtain ⟨c0,c1,c2,g0,g1,g2⟩:=(iter_row (s:=s) (k:=k + dk.2) HBX.out).facts3
     go_wp2_with (go_at_call 131;refine (plain_any _ _).mono ?_;rintro e w' ⟨rfl,rfl⟩)
     rw [Exit.noGoto_ret]
     go_ret
     exact ⟨ret_bool HF.out.symm,HX.out.trans (Ext.alloc _ _)⟩
   ·have hnx:=fun ty=>run_next_end (P:=Tryz.prog) w2 s k ty hlt
    have Hd:Hid (spanL letterC ((bts s).drop k) = 0):=hid (by rw [List.drop_eq_nil_of_le (by rw [bts_len];omega)];rfl)
    have HF:Hid (dallB letterC 1 32 (bts s) = ok):=hid (by unfold dallB;rw [Hsp.out,Hd.out,HOK.out,bts_len,decide_eq_true (by omega)];rfl)
    obtain rfl:s.size = k:=by omega
    go_wp2_with fail
    rw [Exit.noGoto_ret]
    go_ret
    exact ⟨ret_bool HF.out.symm,HX.out.trans (Ext.alloc _ _)⟩
theorem may_2 (s:ByteArray) (w:World) (hs:s.size ≤ 9223372036854775807) :
 Calls Tryz.prog 56 #[.int .i64 2,.string s] w fun e w'=>e = .returned (.bool (nameB (bts s))) ∧ Ext w w':=by
 have ix:∀ w,(Instr.index 163 rulesV (.int .i64 2)).run Tryz.prog w = .ok (.agg #[.int .i64 1,.int .i64 32,.func (.func 131) #[] #[]]) w:=fun _=>rfl
 go_enter Tryz.func56,Tryz.ntmps56
 go_wp2_with fail
 go_step3
 go_wp2_with fail
 refine (known_any 2 _).mono ?_
 rintro e w' ⟨rfl,rfl⟩
 go_wp2_with fail
 refine (rules_any _).mono ?_
 rintro e w1 ⟨rfl,hx1⟩
 have hbx:=RowAt.new w1 162 [.int .i64 1,.int .i64 32,.func (.func 131) #[] #[]]
 go_upto_region 4 with fail
 have hx2:=Ext.alloc w1 (.cells #[.int .i64 1,.int .i64 32,.func (.func 131) #[] #[]] 162)
 generalize w1.alloc (.cells #[.int .i64 1,.int .i64 32,.func (.func 131) #[] #[]] 162) = w2 at *
 obtain ⟨c0,c1,c2,g0,g1,g2⟩:=hbx.facts3
 have HX:=hid (hx1.trans hx2)
 have HBX:=hid hbx
 clear hx1 hx2 hbx
 obtain ⟨ok,hok⟩:∃ ok,ok = (decide (1 ≤ s.size) && decide (s.size ≤ 32)):=⟨_,rfl⟩
 go_cut [6] (fun s6 wx=>s6 = .bool ok ∧ wx = w2)
 case first =>
  by_cases h1:1 ≤ s.size
  ·by_cases h2:s.size ≤ 32
   ·go_wp2_with fail
    go_meet
    exact ⟨congrArg Value.bool (by rw [hok,Bool.eq_iff_iff];simp <;> omega),rfl⟩
   ·go_wp2_with fail
    go_meet
    exact ⟨congrArg Value.bool (by rw [hok,Bool.eq_iff_iff];simp <;> omega),rfl⟩
  ·try (exfalso;omega)
   all_goals
    go_wp2_with fail
    go_meet
    exact ⟨congrArg Value.bool (by rw [hok,Bool.eq_iff_iff];simp <;> omega),rfl⟩
 case rest =>
  obtain ⟨rfl,hwc⟩:=hcut
  rw [hwc]
  clear hwc c0 c1 c2 g0 g1 g2
  have HOK:=hid hok
  clear hok
  go_wp2_with fail
  go_step3
  go_wp2_with fail
  go_loopw [6] (fun v6 wr=>v6 = .bool ok ∧ ∃ k:Nat,k ≤ s.size ∧ wr = w2.iter s k ∧ spanL letterC (bts s) = k + spanL letterC ((bts s).drop k)) (fun _ wr=>s.size - wr.iterPos w2.heap.size)
  case atStart=>exact ⟨rfl,0,Nat.zero_le _,rfl,by simp⟩
  case round =>
   obtain ⟨rfl,k,hk,rfl,hsp⟩:=hrel
   have Hsp:=hid hsp
   clear hsp
   obtain ⟨c0,c1,c2,g0,g1,g2⟩:=(iter_row (s:=s) (k:=k) HBX.out).facts3
   by_cases hlt:k < s.size
   ·by_cases ha:s[k].toNat < 128
    ·have hnx:=fun ty=>run_next_ascii (P:=Tryz.prog) w2 s k ty hlt ha
     cases hp:letterC (s[k].toNat:Int) with
     | true =>
      have Hd:=hid (spanL_drop_yes (p:=letterC) hlt hp)
      obtain ⟨c0,c1,c2,g0,g1,g2⟩:=(iter_row (s:=s) (k:=k + 1) HBX.out).facts3
      go_wp2_with (go_at_call 131;refine (plain_any _ _).mono ?_;rintro e w' ⟨rfl,rfl⟩)
      go_roundw
      case rel=>exact ⟨rfl,k + 1,by omega,rfl,by rw [Hsp.out,Hd.out];omega⟩
      case measure=>simp;omega
     | false =>
      have Hd:=hid (spanL_drop_no (p:=letterC) hlt hp)
      have HF:Hid (dallB letterC 1 32 (bts s) = false):=hid (by unfold dallB;rw [Hsp.out,Hd.out,bts_len,decide_eq_false (by omega)];rfl)
      obtain ⟨c0,c1,c2,g0,g1,g2⟩:=(iter_row (s:=s) (k:=k + 1) HBX.out).facts3
      go_wp2_with (go_at_call 131;refine (plain_any _ _).mono ?_;rintro e w' ⟨rfl,rfl⟩)
      rw [Exit.noGoto_ret]
      go_ret
      exact ⟨ret_bool HF.out.symm,HX.out.trans (Ext.alloc _ _)⟩
    ·have hnx:=fun ty=>run_next_any (P:=Tryz.prog) w2 s k ty hlt
     have hp:letterC (s[k].toNat:Int) = false:=dhigh_letter _ (by omega)
     have Hd:=hid (spanL_drop_no (p:=letterC) hlt hp)
     have HF:Hid (dallB letterC 1 32 (bts s) = false):=hid (by unfold dallB;rw [Hsp.out,Hd.out,bts_len,decide_eq_false (by omega)];rfl)
     have hp2:letterC ((Utf8.decode s k).1:Int) = false:=dhigh_letter _ (by have:=(decode_high s k hlt (by omega)).1;omega)
     generalize Utf8.decode s k = dk at hnx hp2
     clear hp
     obtain ⟨c0,c1,c2,g0,g1,g2⟩:=(iter_row (s:=s) (k:=k + dk.2) HBX.out).facts3
     go_wp2_with (go_at_call 131;refine (plain_any _ _).mono ?_;rintro e w' ⟨rfl,rfl⟩)
     rw [Exit.noGoto_ret]
     go_ret
     exact ⟨ret_bool HF.out.symm,HX.out.trans (Ext.alloc _ _)⟩
   ·have hnx:=fun ty=>run_next_end (P:=Tryz.prog) w2 s k ty hlt
    have Hd:Hid (spanL letterC ((bts s).drop k) = 0):=hid (by rw [List.drop_eq_nil_of_le (by rw [bts_len];omega)];rfl)
    have HF:Hid (dallB letterC 1 32 (bts s) = ok):=hid (by unfold dallB;rw [Hsp.out,Hd.out,HOK.out,bts_len,decide_eq_true (by omega)];rfl)
    obtain rfl:s.size = k:=by omega
    go_wp2_with fail
    rw [Exit.noGoto_ret]
    go_ret
    exact ⟨ret_bool HF.out.symm,HX.out.trans (Ext.alloc _ _)⟩
theorem may_3 (s:ByteArray) (w:World) (hs:s.size ≤ 9223372036854775807) :
 Calls Tryz.prog 56 #[.int .i64 3,.string s] w fun e w'=>e = .returned (.bool (nameB (bts s))) ∧ Ext w w':=by
 have ix:∀ w,(Instr.index 163 rulesV (.int .i64 3)).run Tryz.prog w = .ok (.agg #[.int .i64 1,.int .i64 32,.func (.func 131) #[] #[]]) w:=fun _=>rfl
 go_enter Tryz.func56,Tryz.ntmps56
 go_wp2_with fail
 go_step3
 go_wp2_with fail
 refine (known_any 3 _).mono ?_
 rintro e w' ⟨rfl,rfl⟩
 go_wp2_with fail
 refine (rules_any _).mono ?_
 rintro e w1 ⟨rfl,hx1⟩
 have hbx:=RowAt.new w1 162 [.int .i64 1,.int .i64 32,.func (.func 131) #[] #[]]
 go_upto_region 4 with fail
 have hx2:=Ext.alloc w1 (.cells #[.int .i64 1,.int .i64 32,.func (.func 131) #[] #[]] 162)
 generalize w1.alloc (.cells #[.int .i64 1,.int .i64 32,.func (.func 131) #[] #[]] 162) = w2 at *
 obtain ⟨c0,c1,c2,g0,g1,g2⟩:=hbx.facts3
 have HX:=hid (hx1.trans hx2)
 have HBX:=hid hbx
 clear hx1 hx2 hbx
 obtain ⟨ok,hok⟩:∃ ok,ok = (decide (1 ≤ s.size) && decide (s.size ≤ 32)):=⟨_,rfl⟩
 go_cut [6] (fun s6 wx=>s6 = .bool ok ∧ wx = w2)
 case first =>
  by_cases h1:1 ≤ s.size
  ·by_cases h2:s.size ≤ 32
   ·go_wp2_with fail
    go_meet
    exact ⟨congrArg Value.bool (by rw [hok,Bool.eq_iff_iff];simp <;> omega),rfl⟩
   ·go_wp2_with fail
    go_meet
    exact ⟨congrArg Value.bool (by rw [hok,Bool.eq_iff_iff];simp <;> omega),rfl⟩
  ·try (exfalso;omega)
   all_goals
    go_wp2_with fail
    go_meet
    exact ⟨congrArg Value.bool (by rw [hok,Bool.eq_iff_iff];simp <;> omega),rfl⟩
 case rest =>
  obtain ⟨rfl,hwc⟩:=hcut
  rw [hwc]
  clear hwc c0 c1 c2 g0 g1 g2
  have HOK:=hid hok
  clear hok
  go_wp2_with fail
  go_step3
  go_wp2_with fail
  go_loopw [6] (fun v6 wr=>v6 = .bool ok ∧ ∃ k:Nat,k ≤ s.size ∧ wr = w2.iter s k ∧ spanL letterC (bts s) = k + spanL letterC ((bts s).drop k)) (fun _ wr=>s.size - wr.iterPos w2.heap.size)
  case atStart=>exact ⟨rfl,0,Nat.zero_le _,rfl,by simp⟩
  case round =>
   obtain ⟨rfl,k,hk,rfl,hsp⟩:=hrel
   have Hsp:=hid hsp
   clear hsp
   obtain ⟨c0,c1,c2,g0,g1,g2⟩:=(iter_row (s:=s) (k:=k) HBX.out).facts3
   by_cases hlt:k < s.size
   ·by_cases ha:s[k].toNat < 128
    ·have hnx:=fun ty=>run_next_ascii (P:=Tryz.prog) w2 s k ty hlt ha
     cases hp:letterC (s[k].toNat:Int) with
     | true =>
      have Hd:=hid (spanL_drop_yes (p:=letterC) hlt hp)
      obtain ⟨c0,c1,c2,g0,g1,g2⟩:=(iter_row (s:=s) (k:=k + 1) HBX.out).facts3
      go_wp2_with (go_at_call 131;refine (plain_any _ _).mono ?_;rintro e w' ⟨rfl,rfl⟩)
      go_roundw
      case rel=>exact ⟨rfl,k + 1,by omega,rfl,by rw [Hsp.out,Hd.out];omega⟩
      case measure=>simp;omega
     | false =>
      have Hd:=hid (spanL_drop_no (p:=letterC) hlt hp)
      have HF:Hid (dallB letterC 1 32 (bts s) = false):=hid (by unfold dallB;rw [Hsp.out,Hd.out,bts_len,decide_eq_false (by omega)];rfl)
      obtain ⟨c0,c1,c2,g0,g1,g2⟩:=(iter_row (s:=s) (k:=k + 1) HBX.out).facts3
      go_wp2_with (go_at_call 131;refine (plain_any _ _).mono ?_;rintro e w' ⟨rfl,rfl⟩)
      rw [Exit.noGoto_ret]
      go_ret
      exact ⟨ret_bool HF.out.symm,HX.out.trans (Ext.alloc _ _)⟩
    ·have hnx:=fun ty=>run_next_any (P:=Tryz.prog) w2 s k ty hlt
     have hp:letterC (s[k].toNat:Int) = false:=dhigh_letter _ (by omega)
     have Hd:=hid (spanL_drop_no (p:=letterC) hlt hp)
     have HF:Hid (dallB letterC 1 32 (bts s) = false):=hid (by unfold dallB;rw [Hsp.out,Hd.out,bts_len,decide_eq_false (by omega)];rfl)
     have hp2:letterC ((Utf8.decode s k).1:Int) = false:=dhigh_letter _ (by have:=(decode_high s k hlt (by omega)).1;omega)
     generalize Utf8.decode s k = dk at hnx hp2
     clear hp
     obtain ⟨c0,c1,c2,g0,g1,g2⟩:=(iter_row (s:=s) (k:=k + dk.2) HBX.out).facts3
     go_wp2_with (go_at_call 131;refine (plain_any _ _).mono ?_;rintro e w' ⟨rfl,rfl⟩)
     rw [Exit.noGoto_ret]
     go_ret
     exact ⟨ret_bool HF.out.symm,HX.out.trans (Ext.alloc _ _)⟩
   ·have hnx:=fun ty=>run_next_end (P:=Tryz.prog) w2 s k ty hlt
    have Hd:Hid (spanL letterC ((bts s).drop k) = 0):=hid (by rw [List.drop_eq_nil_of_le (by rw [bts_len];omega)];rfl)
    have HF:Hid (dallB letterC 1 32 (bts s) = ok):=hid (by unfold dallB;rw [Hsp.out,Hd.out,HOK.out,bts_len,decide_eq_true (by omega)];rfl)
    obtain rfl:s.size = k:=by omega
    go_wp2_with fail
    rw [Exit.noGoto_ret]
    go_ret
    exact ⟨ret_bool HF.out.symm,HX.out.trans (Ext.alloc _ _)⟩
theorem may_4 (s:ByteArray) (w:World) (hs:s.size ≤ 9223372036854775807) :
 Calls Tryz.prog 56 #[.int .i64 4,.string s] w fun e w'=>e = .returned (.bool (dworthB (bts s))) ∧ Ext w w':=by
 have ix:∀ w,(Instr.index 163 rulesV (.int .i64 4)).run Tryz.prog w = .ok (.agg #[.int .i64 0,.int .i64 40,.func (.func 132) #[] #[]]) w:=fun _=>rfl
 go_enter Tryz.func56,Tryz.ntmps56
 go_wp2_with fail
 go_step3
 go_wp2_with fail
 refine (known_any 4 _).mono ?_
 rintro e w' ⟨rfl,rfl⟩
 go_wp2_with fail
 refine (rules_any _).mono ?_
 rintro e w1 ⟨rfl,hx1⟩
 have hbx:=RowAt.new w1 162 [.int .i64 0,.int .i64 40,.func (.func 132) #[] #[]]
 go_upto_region 4 with fail
 have hx2:=Ext.alloc w1 (.cells #[.int .i64 0,.int .i64 40,.func (.func 132) #[] #[]] 162)
 generalize w1.alloc (.cells #[.int .i64 0,.int .i64 40,.func (.func 132) #[] #[]] 162) = w2 at *
 obtain ⟨c0,c1,c2,g0,g1,g2⟩:=hbx.facts3
 have HX:=hid (hx1.trans hx2)
 have HBX:=hid hbx
 clear hx1 hx2 hbx
 obtain ⟨ok,hok⟩:∃ ok,ok = (decide (0 ≤ s.size) && decide (s.size ≤ 40)):=⟨_,rfl⟩
 go_cut [6] (fun s6 wx=>s6 = .bool ok ∧ wx = w2)
 case first =>
  by_cases h1:0 ≤ s.size
  ·by_cases h2:s.size ≤ 40
   ·go_wp2_with fail
    go_meet
    exact ⟨congrArg Value.bool (by rw [hok,Bool.eq_iff_iff];simp <;> omega),rfl⟩
   ·go_wp2_with fail
    go_meet
    exact ⟨congrArg Value.bool (by rw [hok,Bool.eq_iff_iff];simp <;> omega),rfl⟩
  ·try (exfalso;omega)
   all_goals
    go_wp2_with fail
    go_meet
    exact ⟨congrArg Value.bool (by rw [hok,Bool.eq_iff_iff];simp <;> omega),rfl⟩
 case rest =>
  obtain ⟨rfl,hwc⟩:=hcut
  rw [hwc]
  clear hwc c0 c1 c2 g0 g1 g2
  have HOK:=hid hok
  clear hok
  go_wp2_with fail
  go_step3
  go_wp2_with fail
  go_loopw [6] (fun v6 wr=>v6 = .bool ok ∧ ∃ k:Nat,k ≤ s.size ∧ wr = w2.iter s k ∧ spanL quotedC (bts s) = k + spanL quotedC ((bts s).drop k)) (fun _ wr=>s.size - wr.iterPos w2.heap.size)
  case atStart=>exact ⟨rfl,0,Nat.zero_le _,rfl,by simp⟩
  case round =>
   obtain ⟨rfl,k,hk,rfl,hsp⟩:=hrel
   have Hsp:=hid hsp
   clear hsp
   obtain ⟨c0,c1,c2,g0,g1,g2⟩:=(iter_row (s:=s) (k:=k) HBX.out).facts3
   by_cases hlt:k < s.size
   ·by_cases ha:s[k].toNat < 128
    ·have hnx:=fun ty=>run_next_ascii (P:=Tryz.prog) w2 s k ty hlt ha
     cases hp:quotedC (s[k].toNat:Int) with
     | true =>
      have Hd:=hid (spanL_drop_yes (p:=quotedC) hlt hp)
      obtain ⟨c0,c1,c2,g0,g1,g2⟩:=(iter_row (s:=s) (k:=k + 1) HBX.out).facts3
      go_wp2_with (go_at_call 132;refine (worth_any _ _).mono ?_;rintro e w' ⟨rfl,rfl⟩)
      go_roundw
      case rel=>exact ⟨rfl,k + 1,by omega,rfl,by rw [Hsp.out,Hd.out];omega⟩
      case measure=>simp;omega
     | false =>
      have Hd:=hid (spanL_drop_no (p:=quotedC) hlt hp)
      have HF:Hid (dallB quotedC 0 40 (bts s) = false):=hid (by unfold dallB;rw [Hsp.out,Hd.out,bts_len,decide_eq_false (by omega)];rfl)
      obtain ⟨c0,c1,c2,g0,g1,g2⟩:=(iter_row (s:=s) (k:=k + 1) HBX.out).facts3
      go_wp2_with (go_at_call 132;refine (worth_any _ _).mono ?_;rintro e w' ⟨rfl,rfl⟩)
      rw [Exit.noGoto_ret]
      go_ret
      exact ⟨ret_bool HF.out.symm,HX.out.trans (Ext.alloc _ _)⟩
    ·have hnx:=fun ty=>run_next_any (P:=Tryz.prog) w2 s k ty hlt
     have hp:quotedC (s[k].toNat:Int) = false:=dhigh_quoted _ (by omega)
     have Hd:=hid (spanL_drop_no (p:=quotedC) hlt hp)
     have HF:Hid (dallB quotedC 0 40 (bts s) = false):=hid (by unfold dallB;rw [Hsp.out,Hd.out,bts_len,decide_eq_false (by omega)];rfl)
     have hp2:quotedC ((Utf8.decode s k).1:Int) = false:=dhigh_quoted _ (by have:=(decode_high s k hlt (by omega)).1;omega)
     generalize Utf8.decode s k = dk at hnx hp2
     clear hp
     obtain ⟨c0,c1,c2,g0,g1,g2⟩:=(iter_row (s:=s) (k:=k + dk.2) HBX.out).facts3
     go_wp2_with (go_at_call 132;refine (worth_any _ _).mono ?_;rintro e w' ⟨rfl,rfl⟩)
     rw [Exit.noGoto_ret]
     go_ret
     exact ⟨ret_bool HF.out.symm,HX.out.trans (Ext.alloc _ _)⟩
   ·have hnx:=fun ty=>run_next_end (P:=Tryz.prog) w2 s k ty hlt
    have Hd:Hid (spanL quotedC ((bts s).drop k) = 0):=hid (by rw [List.drop_eq_nil_of_le (by rw [bts_len];omega)];rfl)
    have HF:Hid (dallB quotedC 0 40 (bts s) = ok):=hid (by unfold dallB;rw [Hsp.out,Hd.out,HOK.out,bts_len,decide_eq_true (by omega)];rfl)
    obtain rfl:s.size = k:=by omega
    go_wp2_with fail
    rw [Exit.noGoto_ret]
    go_ret
    exact ⟨ret_bool HF.out.symm,HX.out.trans (Ext.alloc _ _)⟩
theorem may_any (k:Int) (s:ByteArray) (w:World) (hs:s.size ≤ 9223372036854775807) :
 Calls Tryz.prog 56 #[.int .i64 k,.string s] w fun e w'=>e = .returned (.bool (mayB k (bts s))) ∧ Ext w w':=by
 by_cases h:0 ≤ k ∧ k ≤ 4
 ·have e:mayB k (bts s) = if k = 4 then dworthB (bts s) else nameB (bts s):=by unfold mayB;rw [decide_eq_true h.1,decide_eq_true h.2];rfl
  rw [e]
  have hc:k = 0 ∨ k = 1 ∨ k = 2 ∨ k = 3 ∨ k = 4:=by omega
  rcases hc with rfl | rfl | rfl | rfl | rfl
  ·exact may_0 s w hs
  ·exact may_1 s w hs
  ·exact may_2 s w hs
  ·exact may_3 s w hs
  ·exact may_4 s w hs
 ·have e:mayB k (bts s) = false:=by
   unfold mayB
   by_cases h1:0 ≤ k
   ·rw [decide_eq_true h1,decide_eq_false (by omega)];rfl
   ·rw [decide_eq_false h1];rfl
  have e2:(decide (0 ≤ k) && decide (k < 5)) = false:=by
   rw [Bool.eq_false_iff]
   intro hh
   simp at hh;omega
  rw [e]
  have hk:=fun w=>known_any k w
  rw [e2] at hk
  clear e e2 h
  go_enter Tryz.func56,Tryz.ntmps56
  go_wp2_with fail
  go_step3
  go_wp2_with fail
  refine (hk _).mono ?_
  rintro e w' ⟨rfl,rfl⟩
  go_wp2_with fail
  rw [Exit.noGoto_ret]
  go_ret
  exact ⟨rfl,Ext.refl _⟩
end

/- The reference's names of kinds. -/
section
open Go.RowKit
def byteB (k:Int) (c:Int):Bool:=if k < 4 then letterC c else if k = 4 then quotedC c else true
theorem mayB_eq (k:Int) (l:List UInt8):mayB k l = (decide (spanL (byteB k) l = l.length) && (decide (0 ≤ k) && decide (k < 4) && (decide (1 ≤ l.length) && decide (l.length ≤ 32)) || (decide (k = 4) && decide (l.length ≤ 40)))):=by
 unfold mayB
 by_cases h4:k = 4
 ·subst h4
  have e:byteB 4 = quotedC:=by funext c;unfold byteB;rw [if_neg (by omega),if_pos rfl]
  rw [e]
  unfold dworthB dallB
  simp
 ·by_cases hk:0 ≤ k ∧ k < 4
  ·have e:byteB k = letterC:=by funext c;unfold byteB;rw [if_pos hk.2]
   rw [e,decide_eq_true hk.1,decide_eq_true (show k ≤ 4 by omega),decide_eq_true hk.2,decide_eq_false h4,if_neg h4]
   unfold nameB dallB
   simp
  ·have e:(decide (0 ≤ k) && (decide (k ≤ 4) && (if k = 4 then dworthB l else nameB l))) = false:=by
    by_cases h0:0 ≤ k
    ·rw [decide_eq_false (show ¬ k ≤ 4 by omega)];simp
    ·rw [decide_eq_false h0];rfl
   have e2:(decide (0 ≤ k) && decide (k < 4)) = false:=by
    by_cases h0:0 ≤ k
    ·rw [decide_eq_false (show ¬ k < 4 by omega)];simp
    ·rw [decide_eq_false h0];rfl
   rw [e,e2,decide_eq_false h4];simp
set_option maxHeartbeats 4000000 in
theorem refMay_any (k:Int) (s:ByteArray) (w:World) (hs:s.size ≤ 9223372036854775807) :
 Calls Tryz.prog 39 #[.int .i64 k,.string s] w fun e w'=>e = .returned (.bool (mayB k (bts s))) ∧ w = w':=by
 have he:=mayB_eq k (bts s)
 rw [bts_len] at he
 obtain ⟨r,hr⟩:∃ r,mayB k (bts s) = r:=⟨_,rfl⟩
 have hk:k < 4 ∨ k = 4 ∨ 4 < k:=by omega
 have hb:∀ c,byteB k c = if k < 4 then letterC c else if k = 4 then quotedC c else true:=fun _=>rfl
 have HB:=hid hb
 have HE:=hid he
 clear he hb hr r
 go_enter Tryz.func39,Tryz.ntmps39
 go_wp2_with fail
 go_loopw [11] (fun i wr=>∃ j:Nat,j ≤ s.size ∧ i = .int .i64 j ∧ wr = w ∧ spanL (byteB k) (bts s) = j + spanL (byteB k) ((bts s).drop j)) (fun i _=>s.size - (intOf i).toNat)
 case atStart=>exact ⟨0,Nat.zero_le _,rfl,rfl,by simp⟩
 case round =>
  obtain ⟨j,hj,rfl,rfl,hsp⟩:=hrel
  have Hsp:=hid hsp
  clear hsp
  by_cases hlt:j < s.size
  ·have hb8:s[j].toNat < 256:=s[j].toNat_lt
   have HYes:=hid (fun h=>spanL_drop_yes (p:=byteB k) hlt h)
   have HNo:=hid (fun h=>spanL_drop_no (p:=byteB k) hlt h)
   have HBj:=hid (HB.out (s[j].toNat:Int))
   obtain ⟨c,hc⟩:∃ c:Int,(s[j].toNat:Int) = c:=⟨_,rfl⟩
   rw [hc] at HYes HNo HBj
   go_upto_region 5 with fail
   try simp only [hc]
   have h0:0 ≤ c:=by omega
   have h256:c < 256:=by omega
   clear hc hb8
   go_cut [7] (fun s7 wx=>s7 = .bool (letterC c) ∧ wx = wr)
   case first =>
    go_wp2
    all_goals (go_meet;exact ⟨congrArg Value.bool (by unfold letterC;rw [Bool.eq_iff_iff];simp;try omega),rfl⟩)
   case rest =>
    obtain ⟨rfl,hwc⟩:=hcut
    rw [hwc]
    clear hwc
    go_upto_region 6 with fail
    go_cut [8] (fun s8 wx=>s8 = .bool (quotedC c) ∧ wx = wr)
    case first =>
     cases hq:quotedC c with
     | true =>
      have HQ:=hid hq
      have hq':=of_decide_eq_true hq
      have q1:(c != 34) = true:=by simp;omega
      have q2:(c != 92) = true:=by simp;omega
      have q3:32 ≤ c:=by omega
      have q4:c ≤ 126:=by omega
      clear hq hq'
      go_wp2_with fail
      go_meet
      exact ⟨congrArg Value.bool HQ.out.symm,rfl⟩
     | false =>
      have HQ:=hid hq
      have hq':=of_decide_eq_false hq
      clear hq
      have hc:c < 32 ∨ 126 < c ∨ (32 ≤ c ∧ c ≤ 126 ∧ (c != 34) = false) ∨ (32 ≤ c ∧ c ≤ 126 ∧ (c != 34) = true ∧ (c != 92) = false):=by simp;omega
      clear hq'
      rcases hc with h | h | ⟨h,h',h2⟩ | ⟨h,h',h2,h3⟩
      all_goals
       go_wp2_with fail
       go_meet
       exact ⟨congrArg Value.bool HQ.out.symm,rfl⟩
    case rest =>
     obtain ⟨rfl,hwc⟩:=hcut
     rw [hwc]
     clear hwc
     have hyes:=HYes.out
     have hno:=HNo.out
     rw [HBj.out] at hyes hno
     generalize letterC c = b1 at *
     generalize quotedC c = b2 at *
     have HF:Hid (spanL (byteB k) ((bts s).drop j) = 0 → mayB k (bts s) = false):=hid (fun h=>by rw [HE.out,Hsp.out,h,decide_eq_false (by omega)];rfl)
     rcases hk with h4 | h4 | h4
     ·have k4:(k == 4) = false:=by simp;omega
      rw [if_pos h4] at hyes hno
      cases b1 with
      | true =>
       have HY:=hid (hyes rfl)
       clear hyes hno
       go_wp2_with fail
       go_roundw
       case rel=>exact ⟨j + 1,by omega,by go_num,by trivial,by rw [Hsp.out,HY.out];omega⟩
       case measure=>simp [intOf];omega
      | false =>
       have HN:=hid (HF.out (hno rfl))
       clear hyes hno
       go_wp2_with fail
       go_ret
       exact ⟨ret_bool HN.out.symm,rfl⟩
     ·subst h4
      rw [if_neg (by omega),if_pos rfl] at hyes hno
      cases b2 with
      | true =>
       have HY:=hid (hyes rfl)
       clear hyes hno
       go_wp2_with fail
       go_roundw
       case rel=>exact ⟨j + 1,by omega,by go_num,by trivial,by rw [Hsp.out,HY.out];omega⟩
       case measure=>simp [intOf];omega
      | false =>
       have HN:=hid (HF.out (hno rfl))
       clear hyes hno
       go_wp2_with fail
       go_ret
       exact ⟨ret_bool HN.out.symm,rfl⟩
     ·have k4:(k == 4) = false:=by simp;omega
      have h4':¬ k < 4:=by omega
      rw [if_neg h4',if_neg (by omega)] at hyes hno
      have HY:=hid (hyes rfl)
      clear hyes hno
      go_wp2_with fail
      go_roundw
      case rel=>exact ⟨j + 1,by omega,by go_num,by trivial,by rw [Hsp.out,HY.out];omega⟩
      case measure=>simp [intOf];omega
  ·have hd:spanL (byteB k) ((bts s).drop j) = 0:=by rw [List.drop_eq_nil_of_le (by rw [bts_len];omega)];rfl
   have HF:Hid (mayB k (bts s) = (decide (0 ≤ k) && decide (k < 4) && (decide (1 ≤ s.size) && decide (s.size ≤ 32)) || (decide (k = 4) && decide (s.size ≤ 40)))):=hid (by rw [HE.out,Hsp.out,hd,decide_eq_true (by omega)];rfl)
   clear hd
   have hk':k < 0 ∨ (0 ≤ k ∧ k < 4) ∨ k = 4 ∨ 4 < k:=by omega
   clear hk
   rcases hk' with h | h | h | h
   all_goals
    try subst h
    go_wp2
    all_goals
     go_ret
     exact ⟨ret_bool (by rw [HF.out,Bool.eq_iff_iff];simp <;> omega),rfl⟩
end

end Go.Proofs.YtkmbnghghbfkdaaGreat
