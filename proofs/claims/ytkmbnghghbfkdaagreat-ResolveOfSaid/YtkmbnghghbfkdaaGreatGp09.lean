/- May it be a name of a kind? -/
import Derived.Test.YtkmbnghghbfkdaaGreatGp08
set_option linter.unusedSimpArgs false
set_option linter.unusedVariables false
set_option maxHeartbeats 2000000
set_option maxRecDepth 100000

namespace Go.Proofs.YtkmbnghghbfkdaaGreat
open Go.RowKit
theorem iter_row {w : World} {s : ByteArray} {k b : Nat} {t : TypeId} {xs : List Value} (h : RowAt w b t xs) : RowAt (w.iter s k) b t xs := h.ext (Ext.alloc _ _)
theorem may_0 (s : ByteArray) (w : World) (hs : s.size ≤ 9223372036854775807) :
 Calls Tryz.prog 56 #[.int .i64 0, .string s] w fun e w' => e = .returned (.bool (nameB (bts s))) ∧ Ext w w' := by
 have ix : ∀ w, (Instr.index 163 rulesV (.int .i64 0)).run Tryz.prog w = .ok (.agg #[.int .i64 1, .int .i64 32, .func (.func 131) #[] #[]]) w := fun _ => rfl
 go_enter Tryz.func56, Tryz.ntmps56
 go_wp2_with fail
 go_step3
 go_wp2_with fail
 refine (known_any 0 _).mono ?_
 rintro e w' ⟨rfl, rfl⟩
 go_wp2_with fail
 refine (rules_any _).mono ?_
 rintro e w1 ⟨rfl, hx1⟩
 have hbx := RowAt.new w1 162 [.int .i64 1, .int .i64 32, .func (.func 131) #[] #[]]
 go_upto_region 4 with fail
 have hx2 := Ext.alloc w1 (.cells #[.int .i64 1, .int .i64 32, .func (.func 131) #[] #[]] 162)
 generalize w1.alloc (.cells #[.int .i64 1, .int .i64 32, .func (.func 131) #[] #[]] 162) = w2 at *
 obtain ⟨c0, c1, c2, g0, g1, g2⟩ := hbx.facts3
 have HX := Lib.hid (hx1.trans hx2)
 have HBX := Lib.hid hbx
 clear hx1 hx2 hbx
 obtain ⟨ok, hok⟩ : ∃ ok, ok = (decide (1 ≤ s.size) && decide (s.size ≤ 32)) := ⟨_, rfl⟩
 go_cut [6] (fun s6 wx => s6 = .bool ok ∧ wx = w2)
 case first =>
  by_cases h1 : 1 ≤ s.size
  ·by_cases h2 : s.size ≤ 32
   ·go_wp2_with fail
    go_meet
    exact ⟨congrArg Value.bool (by rw [hok, Bool.eq_iff_iff]; simp <;> omega), rfl⟩
   ·go_wp2_with fail
    go_meet
    exact ⟨congrArg Value.bool (by rw [hok, Bool.eq_iff_iff]; simp <;> omega), rfl⟩
  ·try (exfalso; omega)
   all_goals
    go_wp2_with fail
    go_meet
    exact ⟨congrArg Value.bool (by rw [hok, Bool.eq_iff_iff]; simp <;> omega), rfl⟩
 case rest =>
  obtain ⟨rfl, hwc⟩ := hcut
  rw [hwc]
  clear hwc c0 c1 c2 g0 g1 g2
  have HOK := Lib.hid hok
  clear hok
  go_wp2_with fail
  go_step3
  go_wp2_with fail
  go_loopw [6] (fun v6 wr => v6 = .bool ok ∧ ∃ k : Nat, k ≤ s.size ∧ wr = w2.iter s k ∧ spanL letterC (bts s) = k + spanL letterC ((bts s).drop k)) (fun _ wr => s.size - wr.iterPos w2.heap.size)
  case atStart => exact ⟨rfl, 0, Nat.zero_le _, rfl, by simp⟩
  case round =>
   obtain ⟨rfl, k, hk, rfl, hsp⟩ := hrel
   have Hsp := Lib.hid hsp
   clear hsp
   obtain ⟨c0, c1, c2, g0, g1, g2⟩ := (iter_row (s := s) (k := k) HBX.out).facts3
   by_cases hlt : k < s.size
   ·by_cases ha : s[k].toNat < 128
    ·have hnx := fun ty => run_next_ascii (P := Tryz.prog) w2 s k ty hlt ha
     cases hp : letterC (s[k].toNat : Int) with
     | true =>
      have Hd := Lib.hid (spanL_drop_yes (p := letterC) hlt hp)
      obtain ⟨c0, c1, c2, g0, g1, g2⟩ := (iter_row (s := s) (k := k + 1) HBX.out).facts3
      go_wp2_with (go_at_call 131; refine (plain_any _ _).mono ?_; rintro e w' ⟨rfl, rfl⟩)
      go_roundw
      case rel => exact ⟨rfl, k + 1, by omega, rfl, by rw [Hsp.out, Hd.out]; omega⟩
      case measure => simp; omega
     | false =>
      have Hd := Lib.hid (spanL_drop_no (p := letterC) hlt hp)
      have HF : Hid (dallB letterC 1 32 (bts s) = false) := Lib.hid (by unfold dallB; rw [Hsp.out, Hd.out, bts_len, decide_eq_false (by omega)]; rfl)
      obtain ⟨c0, c1, c2, g0, g1, g2⟩ := (iter_row (s := s) (k := k + 1) HBX.out).facts3
      go_wp2_with (go_at_call 131; refine (plain_any _ _).mono ?_; rintro e w' ⟨rfl, rfl⟩)
      rw [Exit.noGoto_ret]
      go_ret
      exact ⟨ret_bool HF.out.symm, HX.out.trans (Ext.alloc _ _)⟩
    ·have hnx := fun ty => run_next_any (P := Tryz.prog) w2 s k ty hlt
     have hp : letterC (s[k].toNat : Int) = false := dhigh_letter _ (by omega)
     have Hd := Lib.hid (spanL_drop_no (p := letterC) hlt hp)
     have HF : Hid (dallB letterC 1 32 (bts s) = false) := Lib.hid (by unfold dallB; rw [Hsp.out, Hd.out, bts_len, decide_eq_false (by omega)]; rfl)
     have hp2 : letterC ((Utf8.decode s k).1 : Int) = false := dhigh_letter _ (by have := (decode_high s k hlt (by omega)).1; omega)
     generalize Utf8.decode s k = dk at hnx hp2
     clear hp
     obtain ⟨c0, c1, c2, g0, g1, g2⟩ := (iter_row (s := s) (k := k + dk.2) HBX.out).facts3
     go_wp2_with (go_at_call 131; refine (plain_any _ _).mono ?_; rintro e w' ⟨rfl, rfl⟩)
     rw [Exit.noGoto_ret]
     go_ret
     exact ⟨ret_bool HF.out.symm, HX.out.trans (Ext.alloc _ _)⟩
   ·have hnx := fun ty => run_next_end (P := Tryz.prog) w2 s k ty hlt
    have Hd : Hid (spanL letterC ((bts s).drop k) = 0) := Lib.hid (by rw [List.drop_eq_nil_of_le (by rw [bts_len]; omega)]; rfl)
    have HF : Hid (dallB letterC 1 32 (bts s) = ok) := Lib.hid (by unfold dallB; rw [Hsp.out, Hd.out, HOK.out, bts_len, decide_eq_true (by omega)]; rfl)
    obtain rfl : s.size = k := by omega
    go_wp2_with fail
    rw [Exit.noGoto_ret]
    go_ret
    exact ⟨ret_bool HF.out.symm, HX.out.trans (Ext.alloc _ _)⟩
theorem may_1 (s : ByteArray) (w : World) (hs : s.size ≤ 9223372036854775807) :
 Calls Tryz.prog 56 #[.int .i64 1, .string s] w fun e w' => e = .returned (.bool (nameB (bts s))) ∧ Ext w w' := by
 have ix : ∀ w, (Instr.index 163 rulesV (.int .i64 1)).run Tryz.prog w = .ok (.agg #[.int .i64 1, .int .i64 32, .func (.func 131) #[] #[]]) w := fun _ => rfl
 go_enter Tryz.func56, Tryz.ntmps56
 go_wp2_with fail
 go_step3
 go_wp2_with fail
 refine (known_any 1 _).mono ?_
 rintro e w' ⟨rfl, rfl⟩
 go_wp2_with fail
 refine (rules_any _).mono ?_
 rintro e w1 ⟨rfl, hx1⟩
 have hbx := RowAt.new w1 162 [.int .i64 1, .int .i64 32, .func (.func 131) #[] #[]]
 go_upto_region 4 with fail
 have hx2 := Ext.alloc w1 (.cells #[.int .i64 1, .int .i64 32, .func (.func 131) #[] #[]] 162)
 generalize w1.alloc (.cells #[.int .i64 1, .int .i64 32, .func (.func 131) #[] #[]] 162) = w2 at *
 obtain ⟨c0, c1, c2, g0, g1, g2⟩ := hbx.facts3
 have HX := Lib.hid (hx1.trans hx2)
 have HBX := Lib.hid hbx
 clear hx1 hx2 hbx
 obtain ⟨ok, hok⟩ : ∃ ok, ok = (decide (1 ≤ s.size) && decide (s.size ≤ 32)) := ⟨_, rfl⟩
 go_cut [6] (fun s6 wx => s6 = .bool ok ∧ wx = w2)
 case first =>
  by_cases h1 : 1 ≤ s.size
  ·by_cases h2 : s.size ≤ 32
   ·go_wp2_with fail
    go_meet
    exact ⟨congrArg Value.bool (by rw [hok, Bool.eq_iff_iff]; simp <;> omega), rfl⟩
   ·go_wp2_with fail
    go_meet
    exact ⟨congrArg Value.bool (by rw [hok, Bool.eq_iff_iff]; simp <;> omega), rfl⟩
  ·try (exfalso; omega)
   all_goals
    go_wp2_with fail
    go_meet
    exact ⟨congrArg Value.bool (by rw [hok, Bool.eq_iff_iff]; simp <;> omega), rfl⟩
 case rest =>
  obtain ⟨rfl, hwc⟩ := hcut
  rw [hwc]
  clear hwc c0 c1 c2 g0 g1 g2
  have HOK := Lib.hid hok
  clear hok
  go_wp2_with fail
  go_step3
  go_wp2_with fail
  go_loopw [6] (fun v6 wr => v6 = .bool ok ∧ ∃ k : Nat, k ≤ s.size ∧ wr = w2.iter s k ∧ spanL letterC (bts s) = k + spanL letterC ((bts s).drop k)) (fun _ wr => s.size - wr.iterPos w2.heap.size)
  case atStart => exact ⟨rfl, 0, Nat.zero_le _, rfl, by simp⟩
  case round =>
   obtain ⟨rfl, k, hk, rfl, hsp⟩ := hrel
   have Hsp := Lib.hid hsp
   clear hsp
   obtain ⟨c0, c1, c2, g0, g1, g2⟩ := (iter_row (s := s) (k := k) HBX.out).facts3
   by_cases hlt : k < s.size
   ·by_cases ha : s[k].toNat < 128
    ·have hnx := fun ty => run_next_ascii (P := Tryz.prog) w2 s k ty hlt ha
     cases hp : letterC (s[k].toNat : Int) with
     | true =>
      have Hd := Lib.hid (spanL_drop_yes (p := letterC) hlt hp)
      obtain ⟨c0, c1, c2, g0, g1, g2⟩ := (iter_row (s := s) (k := k + 1) HBX.out).facts3
      go_wp2_with (go_at_call 131; refine (plain_any _ _).mono ?_; rintro e w' ⟨rfl, rfl⟩)
      go_roundw
      case rel => exact ⟨rfl, k + 1, by omega, rfl, by rw [Hsp.out, Hd.out]; omega⟩
      case measure => simp; omega
     | false =>
      have Hd := Lib.hid (spanL_drop_no (p := letterC) hlt hp)
      have HF : Hid (dallB letterC 1 32 (bts s) = false) := Lib.hid (by unfold dallB; rw [Hsp.out, Hd.out, bts_len, decide_eq_false (by omega)]; rfl)
      obtain ⟨c0, c1, c2, g0, g1, g2⟩ := (iter_row (s := s) (k := k + 1) HBX.out).facts3
      go_wp2_with (go_at_call 131; refine (plain_any _ _).mono ?_; rintro e w' ⟨rfl, rfl⟩)
      rw [Exit.noGoto_ret]
      go_ret
      exact ⟨ret_bool HF.out.symm, HX.out.trans (Ext.alloc _ _)⟩
    ·have hnx := fun ty => run_next_any (P := Tryz.prog) w2 s k ty hlt
     have hp : letterC (s[k].toNat : Int) = false := dhigh_letter _ (by omega)
     have Hd := Lib.hid (spanL_drop_no (p := letterC) hlt hp)
     have HF : Hid (dallB letterC 1 32 (bts s) = false) := Lib.hid (by unfold dallB; rw [Hsp.out, Hd.out, bts_len, decide_eq_false (by omega)]; rfl)
     have hp2 : letterC ((Utf8.decode s k).1 : Int) = false := dhigh_letter _ (by have := (decode_high s k hlt (by omega)).1; omega)
     generalize Utf8.decode s k = dk at hnx hp2
     clear hp
     obtain ⟨c0, c1, c2, g0, g1, g2⟩ := (iter_row (s := s) (k := k + dk.2) HBX.out).facts3
     go_wp2_with (go_at_call 131; refine (plain_any _ _).mono ?_; rintro e w' ⟨rfl, rfl⟩)
     rw [Exit.noGoto_ret]
     go_ret
     exact ⟨ret_bool HF.out.symm, HX.out.trans (Ext.alloc _ _)⟩
   ·have hnx := fun ty => run_next_end (P := Tryz.prog) w2 s k ty hlt
    have Hd : Hid (spanL letterC ((bts s).drop k) = 0) := Lib.hid (by rw [List.drop_eq_nil_of_le (by rw [bts_len]; omega)]; rfl)
    have HF : Hid (dallB letterC 1 32 (bts s) = ok) := Lib.hid (by unfold dallB; rw [Hsp.out, Hd.out, HOK.out, bts_len, decide_eq_true (by omega)]; rfl)
    obtain rfl : s.size = k := by omega
    go_wp2_with fail
    rw [Exit.noGoto_ret]
    go_ret
    exact ⟨ret_bool HF.out.symm, HX.out.trans (Ext.alloc _ _)⟩
theorem may_2 (s : ByteArray) (w : World) (hs : s.size ≤ 9223372036854775807) :
 Calls Tryz.prog 56 #[.int .i64 2, .string s] w fun e w' => e = .returned (.bool (nameB (bts s))) ∧ Ext w w' := by
 have ix : ∀ w, (Instr.index 163 rulesV (.int .i64 2)).run Tryz.prog w = .ok (.agg #[.int .i64 1, .int .i64 32, .func (.func 131) #[] #[]]) w := fun _ => rfl
 go_enter Tryz.func56, Tryz.ntmps56
 go_wp2_with fail
 go_step3
 go_wp2_with fail
 refine (known_any 2 _).mono ?_
 rintro e w' ⟨rfl, rfl⟩
 go_wp2_with fail
 refine (rules_any _).mono ?_
 rintro e w1 ⟨rfl, hx1⟩
 have hbx := RowAt.new w1 162 [.int .i64 1, .int .i64 32, .func (.func 131) #[] #[]]
 go_upto_region 4 with fail
 have hx2 := Ext.alloc w1 (.cells #[.int .i64 1, .int .i64 32, .func (.func 131) #[] #[]] 162)
 generalize w1.alloc (.cells #[.int .i64 1, .int .i64 32, .func (.func 131) #[] #[]] 162) = w2 at *
 obtain ⟨c0, c1, c2, g0, g1, g2⟩ := hbx.facts3
 have HX := Lib.hid (hx1.trans hx2)
 have HBX := Lib.hid hbx
 clear hx1 hx2 hbx
 obtain ⟨ok, hok⟩ : ∃ ok, ok = (decide (1 ≤ s.size) && decide (s.size ≤ 32)) := ⟨_, rfl⟩
 go_cut [6] (fun s6 wx => s6 = .bool ok ∧ wx = w2)
 case first =>
  by_cases h1 : 1 ≤ s.size
  ·by_cases h2 : s.size ≤ 32
   ·go_wp2_with fail
    go_meet
    exact ⟨congrArg Value.bool (by rw [hok, Bool.eq_iff_iff]; simp <;> omega), rfl⟩
   ·go_wp2_with fail
    go_meet
    exact ⟨congrArg Value.bool (by rw [hok, Bool.eq_iff_iff]; simp <;> omega), rfl⟩
  ·try (exfalso; omega)
   all_goals
    go_wp2_with fail
    go_meet
    exact ⟨congrArg Value.bool (by rw [hok, Bool.eq_iff_iff]; simp <;> omega), rfl⟩
 case rest =>
  obtain ⟨rfl, hwc⟩ := hcut
  rw [hwc]
  clear hwc c0 c1 c2 g0 g1 g2
  have HOK := Lib.hid hok
  clear hok
  go_wp2_with fail
  go_step3
  go_wp2_with fail
  go_loopw [6] (fun v6 wr => v6 = .bool ok ∧ ∃ k : Nat, k ≤ s.size ∧ wr = w2.iter s k ∧ spanL letterC (bts s) = k + spanL letterC ((bts s).drop k)) (fun _ wr => s.size - wr.iterPos w2.heap.size)
  case atStart => exact ⟨rfl, 0, Nat.zero_le _, rfl, by simp⟩
  case round =>
   obtain ⟨rfl, k, hk, rfl, hsp⟩ := hrel
   have Hsp := Lib.hid hsp
   clear hsp
   obtain ⟨c0, c1, c2, g0, g1, g2⟩ := (iter_row (s := s) (k := k) HBX.out).facts3
   by_cases hlt : k < s.size
   ·by_cases ha : s[k].toNat < 128
    ·have hnx := fun ty => run_next_ascii (P := Tryz.prog) w2 s k ty hlt ha
     cases hp : letterC (s[k].toNat : Int) with
     | true =>
      have Hd := Lib.hid (spanL_drop_yes (p := letterC) hlt hp)
      obtain ⟨c0, c1, c2, g0, g1, g2⟩ := (iter_row (s := s) (k := k + 1) HBX.out).facts3
      go_wp2_with (go_at_call 131; refine (plain_any _ _).mono ?_; rintro e w' ⟨rfl, rfl⟩)
      go_roundw
      case rel => exact ⟨rfl, k + 1, by omega, rfl, by rw [Hsp.out, Hd.out]; omega⟩
      case measure => simp; omega
     | false =>
      have Hd := Lib.hid (spanL_drop_no (p := letterC) hlt hp)
      have HF : Hid (dallB letterC 1 32 (bts s) = false) := Lib.hid (by unfold dallB; rw [Hsp.out, Hd.out, bts_len, decide_eq_false (by omega)]; rfl)
      obtain ⟨c0, c1, c2, g0, g1, g2⟩ := (iter_row (s := s) (k := k + 1) HBX.out).facts3
      go_wp2_with (go_at_call 131; refine (plain_any _ _).mono ?_; rintro e w' ⟨rfl, rfl⟩)
      rw [Exit.noGoto_ret]
      go_ret
      exact ⟨ret_bool HF.out.symm, HX.out.trans (Ext.alloc _ _)⟩
    ·have hnx := fun ty => run_next_any (P := Tryz.prog) w2 s k ty hlt
     have hp : letterC (s[k].toNat : Int) = false := dhigh_letter _ (by omega)
     have Hd := Lib.hid (spanL_drop_no (p := letterC) hlt hp)
     have HF : Hid (dallB letterC 1 32 (bts s) = false) := Lib.hid (by unfold dallB; rw [Hsp.out, Hd.out, bts_len, decide_eq_false (by omega)]; rfl)
     have hp2 : letterC ((Utf8.decode s k).1 : Int) = false := dhigh_letter _ (by have := (decode_high s k hlt (by omega)).1; omega)
     generalize Utf8.decode s k = dk at hnx hp2
     clear hp
     obtain ⟨c0, c1, c2, g0, g1, g2⟩ := (iter_row (s := s) (k := k + dk.2) HBX.out).facts3
     go_wp2_with (go_at_call 131; refine (plain_any _ _).mono ?_; rintro e w' ⟨rfl, rfl⟩)
     rw [Exit.noGoto_ret]
     go_ret
     exact ⟨ret_bool HF.out.symm, HX.out.trans (Ext.alloc _ _)⟩
   ·have hnx := fun ty => run_next_end (P := Tryz.prog) w2 s k ty hlt
    have Hd : Hid (spanL letterC ((bts s).drop k) = 0) := Lib.hid (by rw [List.drop_eq_nil_of_le (by rw [bts_len]; omega)]; rfl)
    have HF : Hid (dallB letterC 1 32 (bts s) = ok) := Lib.hid (by unfold dallB; rw [Hsp.out, Hd.out, HOK.out, bts_len, decide_eq_true (by omega)]; rfl)
    obtain rfl : s.size = k := by omega
    go_wp2_with fail
    rw [Exit.noGoto_ret]
    go_ret
    exact ⟨ret_bool HF.out.symm, HX.out.trans (Ext.alloc _ _)⟩
theorem may_3 (s : ByteArray) (w : World) (hs : s.size ≤ 9223372036854775807) :
 Calls Tryz.prog 56 #[.int .i64 3, .string s] w fun e w' => e = .returned (.bool (nameB (bts s))) ∧ Ext w w' := by
 have ix : ∀ w, (Instr.index 163 rulesV (.int .i64 3)).run Tryz.prog w = .ok (.agg #[.int .i64 1, .int .i64 32, .func (.func 131) #[] #[]]) w := fun _ => rfl
 go_enter Tryz.func56, Tryz.ntmps56
 go_wp2_with fail
 go_step3
 go_wp2_with fail
 refine (known_any 3 _).mono ?_
 rintro e w' ⟨rfl, rfl⟩
 go_wp2_with fail
 refine (rules_any _).mono ?_
 rintro e w1 ⟨rfl, hx1⟩
 have hbx := RowAt.new w1 162 [.int .i64 1, .int .i64 32, .func (.func 131) #[] #[]]
 go_upto_region 4 with fail
 have hx2 := Ext.alloc w1 (.cells #[.int .i64 1, .int .i64 32, .func (.func 131) #[] #[]] 162)
 generalize w1.alloc (.cells #[.int .i64 1, .int .i64 32, .func (.func 131) #[] #[]] 162) = w2 at *
 obtain ⟨c0, c1, c2, g0, g1, g2⟩ := hbx.facts3
 have HX := Lib.hid (hx1.trans hx2)
 have HBX := Lib.hid hbx
 clear hx1 hx2 hbx
 obtain ⟨ok, hok⟩ : ∃ ok, ok = (decide (1 ≤ s.size) && decide (s.size ≤ 32)) := ⟨_, rfl⟩
 go_cut [6] (fun s6 wx => s6 = .bool ok ∧ wx = w2)
 case first =>
  by_cases h1 : 1 ≤ s.size
  ·by_cases h2 : s.size ≤ 32
   ·go_wp2_with fail
    go_meet
    exact ⟨congrArg Value.bool (by rw [hok, Bool.eq_iff_iff]; simp <;> omega), rfl⟩
   ·go_wp2_with fail
    go_meet
    exact ⟨congrArg Value.bool (by rw [hok, Bool.eq_iff_iff]; simp <;> omega), rfl⟩
  ·try (exfalso; omega)
   all_goals
    go_wp2_with fail
    go_meet
    exact ⟨congrArg Value.bool (by rw [hok, Bool.eq_iff_iff]; simp <;> omega), rfl⟩
 case rest =>
  obtain ⟨rfl, hwc⟩ := hcut
  rw [hwc]
  clear hwc c0 c1 c2 g0 g1 g2
  have HOK := Lib.hid hok
  clear hok
  go_wp2_with fail
  go_step3
  go_wp2_with fail
  go_loopw [6] (fun v6 wr => v6 = .bool ok ∧ ∃ k : Nat, k ≤ s.size ∧ wr = w2.iter s k ∧ spanL letterC (bts s) = k + spanL letterC ((bts s).drop k)) (fun _ wr => s.size - wr.iterPos w2.heap.size)
  case atStart => exact ⟨rfl, 0, Nat.zero_le _, rfl, by simp⟩
  case round =>
   obtain ⟨rfl, k, hk, rfl, hsp⟩ := hrel
   have Hsp := Lib.hid hsp
   clear hsp
   obtain ⟨c0, c1, c2, g0, g1, g2⟩ := (iter_row (s := s) (k := k) HBX.out).facts3
   by_cases hlt : k < s.size
   ·by_cases ha : s[k].toNat < 128
    ·have hnx := fun ty => run_next_ascii (P := Tryz.prog) w2 s k ty hlt ha
     cases hp : letterC (s[k].toNat : Int) with
     | true =>
      have Hd := Lib.hid (spanL_drop_yes (p := letterC) hlt hp)
      obtain ⟨c0, c1, c2, g0, g1, g2⟩ := (iter_row (s := s) (k := k + 1) HBX.out).facts3
      go_wp2_with (go_at_call 131; refine (plain_any _ _).mono ?_; rintro e w' ⟨rfl, rfl⟩)
      go_roundw
      case rel => exact ⟨rfl, k + 1, by omega, rfl, by rw [Hsp.out, Hd.out]; omega⟩
      case measure => simp; omega
     | false =>
      have Hd := Lib.hid (spanL_drop_no (p := letterC) hlt hp)
      have HF : Hid (dallB letterC 1 32 (bts s) = false) := Lib.hid (by unfold dallB; rw [Hsp.out, Hd.out, bts_len, decide_eq_false (by omega)]; rfl)
      obtain ⟨c0, c1, c2, g0, g1, g2⟩ := (iter_row (s := s) (k := k + 1) HBX.out).facts3
      go_wp2_with (go_at_call 131; refine (plain_any _ _).mono ?_; rintro e w' ⟨rfl, rfl⟩)
      rw [Exit.noGoto_ret]
      go_ret
      exact ⟨ret_bool HF.out.symm, HX.out.trans (Ext.alloc _ _)⟩
    ·have hnx := fun ty => run_next_any (P := Tryz.prog) w2 s k ty hlt
     have hp : letterC (s[k].toNat : Int) = false := dhigh_letter _ (by omega)
     have Hd := Lib.hid (spanL_drop_no (p := letterC) hlt hp)
     have HF : Hid (dallB letterC 1 32 (bts s) = false) := Lib.hid (by unfold dallB; rw [Hsp.out, Hd.out, bts_len, decide_eq_false (by omega)]; rfl)
     have hp2 : letterC ((Utf8.decode s k).1 : Int) = false := dhigh_letter _ (by have := (decode_high s k hlt (by omega)).1; omega)
     generalize Utf8.decode s k = dk at hnx hp2
     clear hp
     obtain ⟨c0, c1, c2, g0, g1, g2⟩ := (iter_row (s := s) (k := k + dk.2) HBX.out).facts3
     go_wp2_with (go_at_call 131; refine (plain_any _ _).mono ?_; rintro e w' ⟨rfl, rfl⟩)
     rw [Exit.noGoto_ret]
     go_ret
     exact ⟨ret_bool HF.out.symm, HX.out.trans (Ext.alloc _ _)⟩
   ·have hnx := fun ty => run_next_end (P := Tryz.prog) w2 s k ty hlt
    have Hd : Hid (spanL letterC ((bts s).drop k) = 0) := Lib.hid (by rw [List.drop_eq_nil_of_le (by rw [bts_len]; omega)]; rfl)
    have HF : Hid (dallB letterC 1 32 (bts s) = ok) := Lib.hid (by unfold dallB; rw [Hsp.out, Hd.out, HOK.out, bts_len, decide_eq_true (by omega)]; rfl)
    obtain rfl : s.size = k := by omega
    go_wp2_with fail
    rw [Exit.noGoto_ret]
    go_ret
    exact ⟨ret_bool HF.out.symm, HX.out.trans (Ext.alloc _ _)⟩
theorem may_4 (s : ByteArray) (w : World) (hs : s.size ≤ 9223372036854775807) :
 Calls Tryz.prog 56 #[.int .i64 4, .string s] w fun e w' => e = .returned (.bool (dworthB (bts s))) ∧ Ext w w' := by
 have ix : ∀ w, (Instr.index 163 rulesV (.int .i64 4)).run Tryz.prog w = .ok (.agg #[.int .i64 0, .int .i64 40, .func (.func 132) #[] #[]]) w := fun _ => rfl
 go_enter Tryz.func56, Tryz.ntmps56
 go_wp2_with fail
 go_step3
 go_wp2_with fail
 refine (known_any 4 _).mono ?_
 rintro e w' ⟨rfl, rfl⟩
 go_wp2_with fail
 refine (rules_any _).mono ?_
 rintro e w1 ⟨rfl, hx1⟩
 have hbx := RowAt.new w1 162 [.int .i64 0, .int .i64 40, .func (.func 132) #[] #[]]
 go_upto_region 4 with fail
 have hx2 := Ext.alloc w1 (.cells #[.int .i64 0, .int .i64 40, .func (.func 132) #[] #[]] 162)
 generalize w1.alloc (.cells #[.int .i64 0, .int .i64 40, .func (.func 132) #[] #[]] 162) = w2 at *
 obtain ⟨c0, c1, c2, g0, g1, g2⟩ := hbx.facts3
 have HX := Lib.hid (hx1.trans hx2)
 have HBX := Lib.hid hbx
 clear hx1 hx2 hbx
 obtain ⟨ok, hok⟩ : ∃ ok, ok = (decide (0 ≤ s.size) && decide (s.size ≤ 40)) := ⟨_, rfl⟩
 go_cut [6] (fun s6 wx => s6 = .bool ok ∧ wx = w2)
 case first =>
  by_cases h1 : 0 ≤ s.size
  ·by_cases h2 : s.size ≤ 40
   ·go_wp2_with fail
    go_meet
    exact ⟨congrArg Value.bool (by rw [hok, Bool.eq_iff_iff]; simp <;> omega), rfl⟩
   ·go_wp2_with fail
    go_meet
    exact ⟨congrArg Value.bool (by rw [hok, Bool.eq_iff_iff]; simp <;> omega), rfl⟩
  ·try (exfalso; omega)
   all_goals
    go_wp2_with fail
    go_meet
    exact ⟨congrArg Value.bool (by rw [hok, Bool.eq_iff_iff]; simp <;> omega), rfl⟩
 case rest =>
  obtain ⟨rfl, hwc⟩ := hcut
  rw [hwc]
  clear hwc c0 c1 c2 g0 g1 g2
  have HOK := Lib.hid hok
  clear hok
  go_wp2_with fail
  go_step3
  go_wp2_with fail
  go_loopw [6] (fun v6 wr => v6 = .bool ok ∧ ∃ k : Nat, k ≤ s.size ∧ wr = w2.iter s k ∧ spanL quotedC (bts s) = k + spanL quotedC ((bts s).drop k)) (fun _ wr => s.size - wr.iterPos w2.heap.size)
  case atStart => exact ⟨rfl, 0, Nat.zero_le _, rfl, by simp⟩
  case round =>
   obtain ⟨rfl, k, hk, rfl, hsp⟩ := hrel
   have Hsp := Lib.hid hsp
   clear hsp
   obtain ⟨c0, c1, c2, g0, g1, g2⟩ := (iter_row (s := s) (k := k) HBX.out).facts3
   by_cases hlt : k < s.size
   ·by_cases ha : s[k].toNat < 128
    ·have hnx := fun ty => run_next_ascii (P := Tryz.prog) w2 s k ty hlt ha
     cases hp : quotedC (s[k].toNat : Int) with
     | true =>
      have Hd := Lib.hid (spanL_drop_yes (p := quotedC) hlt hp)
      obtain ⟨c0, c1, c2, g0, g1, g2⟩ := (iter_row (s := s) (k := k + 1) HBX.out).facts3
      go_wp2_with (go_at_call 132; refine (worth_any _ _).mono ?_; rintro e w' ⟨rfl, rfl⟩)
      go_roundw
      case rel => exact ⟨rfl, k + 1, by omega, rfl, by rw [Hsp.out, Hd.out]; omega⟩
      case measure => simp; omega
     | false =>
      have Hd := Lib.hid (spanL_drop_no (p := quotedC) hlt hp)
      have HF : Hid (dallB quotedC 0 40 (bts s) = false) := Lib.hid (by unfold dallB; rw [Hsp.out, Hd.out, bts_len, decide_eq_false (by omega)]; rfl)
      obtain ⟨c0, c1, c2, g0, g1, g2⟩ := (iter_row (s := s) (k := k + 1) HBX.out).facts3
      go_wp2_with (go_at_call 132; refine (worth_any _ _).mono ?_; rintro e w' ⟨rfl, rfl⟩)
      rw [Exit.noGoto_ret]
      go_ret
      exact ⟨ret_bool HF.out.symm, HX.out.trans (Ext.alloc _ _)⟩
    ·have hnx := fun ty => run_next_any (P := Tryz.prog) w2 s k ty hlt
     have hp : quotedC (s[k].toNat : Int) = false := dhigh_quoted _ (by omega)
     have Hd := Lib.hid (spanL_drop_no (p := quotedC) hlt hp)
     have HF : Hid (dallB quotedC 0 40 (bts s) = false) := Lib.hid (by unfold dallB; rw [Hsp.out, Hd.out, bts_len, decide_eq_false (by omega)]; rfl)
     have hp2 : quotedC ((Utf8.decode s k).1 : Int) = false := dhigh_quoted _ (by have := (decode_high s k hlt (by omega)).1; omega)
     generalize Utf8.decode s k = dk at hnx hp2
     clear hp
     obtain ⟨c0, c1, c2, g0, g1, g2⟩ := (iter_row (s := s) (k := k + dk.2) HBX.out).facts3
     go_wp2_with (go_at_call 132; refine (worth_any _ _).mono ?_; rintro e w' ⟨rfl, rfl⟩)
     rw [Exit.noGoto_ret]
     go_ret
     exact ⟨ret_bool HF.out.symm, HX.out.trans (Ext.alloc _ _)⟩
   ·have hnx := fun ty => run_next_end (P := Tryz.prog) w2 s k ty hlt
    have Hd : Hid (spanL quotedC ((bts s).drop k) = 0) := Lib.hid (by rw [List.drop_eq_nil_of_le (by rw [bts_len]; omega)]; rfl)
    have HF : Hid (dallB quotedC 0 40 (bts s) = ok) := Lib.hid (by unfold dallB; rw [Hsp.out, Hd.out, HOK.out, bts_len, decide_eq_true (by omega)]; rfl)
    obtain rfl : s.size = k := by omega
    go_wp2_with fail
    rw [Exit.noGoto_ret]
    go_ret
    exact ⟨ret_bool HF.out.symm, HX.out.trans (Ext.alloc _ _)⟩
theorem may_any (k : Int) (s : ByteArray) (w : World) (hs : s.size ≤ 9223372036854775807) :
 Calls Tryz.prog 56 #[.int .i64 k, .string s] w fun e w' => e = .returned (.bool (mayB k (bts s))) ∧ Ext w w' := by
 by_cases h : 0 ≤ k ∧ k ≤ 4
 ·have e : mayB k (bts s) = if k = 4 then dworthB (bts s) else nameB (bts s) := by unfold mayB; rw [decide_eq_true h.1, decide_eq_true h.2]; rfl
  rw [e]
  have hc : k = 0 ∨ k = 1 ∨ k = 2 ∨ k = 3 ∨ k = 4 := by omega
  rcases hc with rfl | rfl | rfl | rfl | rfl
  ·exact may_0 s w hs
  ·exact may_1 s w hs
  ·exact may_2 s w hs
  ·exact may_3 s w hs
  ·exact may_4 s w hs
 ·have e : mayB k (bts s) = false := by
   unfold mayB
   by_cases h1 : 0 ≤ k
   ·rw [decide_eq_true h1, decide_eq_false (by omega)]; rfl
   ·rw [decide_eq_false h1]; rfl
  have e2 : (decide (0 ≤ k) && decide (k < 5)) = false := by
   rw [Bool.eq_false_iff]
   intro hh
   simp at hh; omega
  rw [e]
  have hk := fun w => known_any k w
  rw [e2] at hk
  clear e e2 h
  go_enter Tryz.func56, Tryz.ntmps56
  go_wp2_with fail
  go_step3
  go_wp2_with fail
  refine (hk _).mono ?_
  rintro e w' ⟨rfl, rfl⟩
  go_wp2_with fail
  rw [Exit.noGoto_ret]
  go_ret
  exact ⟨rfl, Ext.refl _⟩
end Go.Proofs.YtkmbnghghbfkdaaGreat
