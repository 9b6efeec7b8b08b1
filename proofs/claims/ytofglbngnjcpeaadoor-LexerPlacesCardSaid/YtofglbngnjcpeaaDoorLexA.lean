/- Letters, blanks; how many a text begins with. -/
import Derived.Test.YtofglbngnjcpeaaDoorLexP
import Derived.Test.YtofglbngnjcpeaaDoorProg
import Derived.Laws.RangeAny
namespace Go.Proofs.YtofglbngnjcpeaaDoor
set_option maxRecDepth 100000
set_option maxHeartbeats 2000000
set_option linter.unusedVariables false
set_option linter.unusedSimpArgs false
open Go.RowKit

theorem high_letter (c : Int) (h : 128 ≤ c) : letterC c = false := by unfold letterC; exact decide_eq_false (by omega)
theorem high_quoted (c : Int) (h : 128 ≤ c) : quotedC c = false := by unfold quotedC; exact decide_eq_false (by omega)
theorem high_blank (c : Int) (h : 128 ≤ c) : blankC c = false := by unfold blankC; exact decide_eq_false (by omega)
theorem letter_any (c : Int) (w : World) : Calls Tryd.prog 40 #[.int .i32 c] w fun e w' => e = .returned (.bool (letterC c)) ∧ w = w' := by
  go_enter Tryd.func40, Tryd.ntmps40
  go_wp2
  all_goals (go_ret; exact ⟨ret_bool (by unfold letterC; rw [Bool.eq_iff_iff]; simp; try omega), rfl⟩)
theorem quoted_any (c : Int) (w : World) : Calls Tryd.prog 35 #[.int .i32 c] w fun e w' => e = .returned (.bool (quotedC c)) ∧ w = w' := by
  go_enter Tryd.func35, Tryd.ntmps35
  go_wp2
  all_goals (go_ret; exact ⟨ret_bool (by unfold quotedC; rw [Bool.eq_iff_iff]; simp; try omega), rfl⟩)
theorem blank_any (c : Int) (w : World) : Calls Tryd.prog 23 #[.int .i32 c] w fun e w' => e = .returned (.bool (blankC c)) ∧ w = w' := by
  go_enter Tryd.func23, Tryd.ntmps23
  go_wp2
  all_goals (go_ret; exact ⟨ret_bool (by unfold blankC; rw [Bool.eq_iff_iff]; simp; try omega), rfl⟩)

theorem span_letter_any (s : ByteArray) (w : World) (hs : s.size ≤ 9223372036854775807) :
    Calls Tryd.prog 22 #[.string s, .func (.func 40) #[] #[]] w fun e w' => e = .returned (.int .i64 (spanL letterC (bts s))) ∧ Ext w w' := by
  go_enter Tryd.func22, Tryd.ntmps22
  go_wp2_with fail
  go_loopw [4] (fun _ wr => ∃ k : Nat, k ≤ s.size ∧ wr = w.iter s k ∧ spanL letterC (bts s) = k + spanL letterC ((bts s).drop k)) (fun _ wr => s.size - wr.iterPos w.heap.size)
  case atStart => exact ⟨0, Nat.zero_le _, rfl, by simp⟩
  case round =>
    obtain ⟨k, hk, rfl, hsp⟩ := hrel
    have Hsp := Lib.hid hsp
    clear hsp
    by_cases hlt : k < s.size
    · by_cases ha : s[k].toNat < 128
      · have hnx := fun ty => run_next_ascii (P := Tryd.prog) w s k ty hlt ha
        cases hp : letterC (s[k].toNat : Int) with
        | true =>
          have Hd := Lib.hid (spanL_drop_yes (p := letterC) hlt hp)
          go_wp2_with (go_at_call 40; refine (letter_any _ _).mono ?_; rintro e w' ⟨rfl, rfl⟩)
          go_roundw
          case rel => exact ⟨k + 1, by omega, rfl, by rw [Hsp.out, Hd.out]; omega⟩
          case measure => simp; omega
        | false =>
          have Hd := Lib.hid (spanL_drop_no (p := letterC) hlt hp)
          go_wp2_with (go_at_call 40; refine (letter_any _ _).mono ?_; rintro e w' ⟨rfl, rfl⟩)
          go_ret
          exact ⟨ret_int (by rw [Hsp.out, Hd.out]; omega), Ext.alloc _ _⟩
      · have hnx := fun ty => run_next_any (P := Tryd.prog) w s k ty hlt
        have hp : letterC (s[k].toNat : Int) = false := high_letter _ (by omega)
        have Hd := Lib.hid (spanL_drop_no (p := letterC) hlt hp)
        have hp2 : letterC ((Utf8.decode s k).1 : Int) = false := high_letter _ (by have := (decode_high s k hlt (by omega)).1; omega)
        generalize Utf8.decode s k = dk at hnx hp2
        clear hp
        go_wp2_with (go_at_call 40; refine (letter_any _ _).mono ?_; rintro e w' ⟨rfl, rfl⟩)
        go_ret
        exact ⟨ret_int (by rw [Hsp.out, Hd.out]; omega), Ext.alloc _ _⟩
    · have hnx := fun ty => run_next_end (P := Tryd.prog) w s k ty hlt
      have Hd : Hid (spanL letterC ((bts s).drop k) = 0) := Lib.hid (by rw [List.drop_eq_nil_of_le (by rw [bts_len]; omega)]; rfl)
      obtain rfl : s.size = k := by omega
      go_wp2_with fail
      go_ret
      exact ⟨ret_int (by rw [Hsp.out, Hd.out]; omega), Ext.alloc _ _⟩
theorem span_quoted_any (s : ByteArray) (w : World) (hs : s.size ≤ 9223372036854775807) :
    Calls Tryd.prog 22 #[.string s, .func (.func 35) #[] #[]] w fun e w' => e = .returned (.int .i64 (spanL quotedC (bts s))) ∧ Ext w w' := by
  go_enter Tryd.func22, Tryd.ntmps22
  go_wp2_with fail
  go_loopw [4] (fun _ wr => ∃ k : Nat, k ≤ s.size ∧ wr = w.iter s k ∧ spanL quotedC (bts s) = k + spanL quotedC ((bts s).drop k)) (fun _ wr => s.size - wr.iterPos w.heap.size)
  case atStart => exact ⟨0, Nat.zero_le _, rfl, by simp⟩
  case round =>
    obtain ⟨k, hk, rfl, hsp⟩ := hrel
    have Hsp := Lib.hid hsp
    clear hsp
    by_cases hlt : k < s.size
    · by_cases ha : s[k].toNat < 128
      · have hnx := fun ty => run_next_ascii (P := Tryd.prog) w s k ty hlt ha
        cases hp : quotedC (s[k].toNat : Int) with
        | true =>
          have Hd := Lib.hid (spanL_drop_yes (p := quotedC) hlt hp)
          go_wp2_with (go_at_call 35; refine (quoted_any _ _).mono ?_; rintro e w' ⟨rfl, rfl⟩)
          go_roundw
          case rel => exact ⟨k + 1, by omega, rfl, by rw [Hsp.out, Hd.out]; omega⟩
          case measure => simp; omega
        | false =>
          have Hd := Lib.hid (spanL_drop_no (p := quotedC) hlt hp)
          go_wp2_with (go_at_call 35; refine (quoted_any _ _).mono ?_; rintro e w' ⟨rfl, rfl⟩)
          go_ret
          exact ⟨ret_int (by rw [Hsp.out, Hd.out]; omega), Ext.alloc _ _⟩
      · have hnx := fun ty => run_next_any (P := Tryd.prog) w s k ty hlt
        have hp : quotedC (s[k].toNat : Int) = false := high_quoted _ (by omega)
        have Hd := Lib.hid (spanL_drop_no (p := quotedC) hlt hp)
        have hp2 : quotedC ((Utf8.decode s k).1 : Int) = false := high_quoted _ (by have := (decode_high s k hlt (by omega)).1; omega)
        generalize Utf8.decode s k = dk at hnx hp2
        clear hp
        go_wp2_with (go_at_call 35; refine (quoted_any _ _).mono ?_; rintro e w' ⟨rfl, rfl⟩)
        go_ret
        exact ⟨ret_int (by rw [Hsp.out, Hd.out]; omega), Ext.alloc _ _⟩
    · have hnx := fun ty => run_next_end (P := Tryd.prog) w s k ty hlt
      have Hd : Hid (spanL quotedC ((bts s).drop k) = 0) := Lib.hid (by rw [List.drop_eq_nil_of_le (by rw [bts_len]; omega)]; rfl)
      obtain rfl : s.size = k := by omega
      go_wp2_with fail
      go_ret
      exact ⟨ret_int (by rw [Hsp.out, Hd.out]; omega), Ext.alloc _ _⟩
theorem span_blank_any (s : ByteArray) (w : World) (hs : s.size ≤ 9223372036854775807) :
    Calls Tryd.prog 22 #[.string s, .func (.func 23) #[] #[]] w fun e w' => e = .returned (.int .i64 (spanL blankC (bts s))) ∧ Ext w w' := by
  go_enter Tryd.func22, Tryd.ntmps22
  go_wp2_with fail
  go_loopw [4] (fun _ wr => ∃ k : Nat, k ≤ s.size ∧ wr = w.iter s k ∧ spanL blankC (bts s) = k + spanL blankC ((bts s).drop k)) (fun _ wr => s.size - wr.iterPos w.heap.size)
  case atStart => exact ⟨0, Nat.zero_le _, rfl, by simp⟩
  case round =>
    obtain ⟨k, hk, rfl, hsp⟩ := hrel
    have Hsp := Lib.hid hsp
    clear hsp
    by_cases hlt : k < s.size
    · by_cases ha : s[k].toNat < 128
      · have hnx := fun ty => run_next_ascii (P := Tryd.prog) w s k ty hlt ha
        cases hp : blankC (s[k].toNat : Int) with
        | true =>
          have Hd := Lib.hid (spanL_drop_yes (p := blankC) hlt hp)
          go_wp2_with (go_at_call 23; refine (blank_any _ _).mono ?_; rintro e w' ⟨rfl, rfl⟩)
          go_roundw
          case rel => exact ⟨k + 1, by omega, rfl, by rw [Hsp.out, Hd.out]; omega⟩
          case measure => simp; omega
        | false =>
          have Hd := Lib.hid (spanL_drop_no (p := blankC) hlt hp)
          go_wp2_with (go_at_call 23; refine (blank_any _ _).mono ?_; rintro e w' ⟨rfl, rfl⟩)
          go_ret
          exact ⟨ret_int (by rw [Hsp.out, Hd.out]; omega), Ext.alloc _ _⟩
      · have hnx := fun ty => run_next_any (P := Tryd.prog) w s k ty hlt
        have hp : blankC (s[k].toNat : Int) = false := high_blank _ (by omega)
        have Hd := Lib.hid (spanL_drop_no (p := blankC) hlt hp)
        have hp2 : blankC ((Utf8.decode s k).1 : Int) = false := high_blank _ (by have := (decode_high s k hlt (by omega)).1; omega)
        generalize Utf8.decode s k = dk at hnx hp2
        clear hp
        go_wp2_with (go_at_call 23; refine (blank_any _ _).mono ?_; rintro e w' ⟨rfl, rfl⟩)
        go_ret
        exact ⟨ret_int (by rw [Hsp.out, Hd.out]; omega), Ext.alloc _ _⟩
    · have hnx := fun ty => run_next_end (P := Tryd.prog) w s k ty hlt
      have Hd : Hid (spanL blankC ((bts s).drop k) = 0) := Lib.hid (by rw [List.drop_eq_nil_of_le (by rw [bts_len]; omega)]; rfl)
      obtain rfl : s.size = k := by omega
      go_wp2_with fail
      go_ret
      exact ⟨ret_int (by rw [Hsp.out, Hd.out]; omega), Ext.alloc _ _⟩
end Go.Proofs.YtofglbngnjcpeaaDoor
