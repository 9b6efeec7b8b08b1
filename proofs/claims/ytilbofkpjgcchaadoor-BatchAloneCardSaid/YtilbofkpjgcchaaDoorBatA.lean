/- Names, values; where a field is. -/
import Derived.Test.YtilbofkpjgcchaaDoorBatP
import Derived.Test.YtilbofkpjgcchaaDoorProg
import Derived.Test.YtilbofkpjgcchaaDoorShelf
import Derived.Test.YtilbofkpjgcchaaDoorKit
namespace Go.Proofs.YtilbofkpjgcchaaDoor
set_option maxRecDepth 100000
set_option maxHeartbeats 2000000
set_option linter.unusedVariables false
set_option linter.unusedSimpArgs false
open Go.RowKit

theorem nm1 (c : Int) (w : World) : Calls Tryd.prog 29 #[.int .u8 c] w fun e w' => e = .returned (.bool (letterC c)) ∧ w = w' := by
  go_enter Tryd.func29, Tryd.ntmps29
  go_wp2
  all_goals (go_ret; exact ⟨ret_bool (by unfold letterC; rw [Bool.eq_iff_iff]; simp; try omega), rfl⟩)
theorem vl1 (c : Int) (w : World) : Calls Tryd.prog 30 #[.int .u8 c] w fun e w' => e = .returned (.bool (quotedC c)) ∧ w = w' := by
  go_enter Tryd.func30, Tryd.ntmps30
  go_wp2
  all_goals (go_ret; exact ⟨ret_bool (by unfold quotedC; rw [Bool.eq_iff_iff]; simp; try omega), rfl⟩)
theorem all_name (s : ByteArray) (w : World) (hs : s.size ≤ 9223372036854775807) :
    Calls Tryd.prog 28 #[.string s, .int .i64 1, .int .i64 32, .func (.func 29) #[] #[]] w fun e w' => e = .returned (.bool (allB letterC 1 32 (bts s))) ∧ w = w' := by
  have hall : allB letterC 1 32 (bts s) = (decide (spanL letterC (bts s) = s.size) && (decide (1 ≤ s.size) && decide (s.size ≤ 32))) := by unfold allB; rw [bts_len]
  have Hall := Lib.hid hall
  clear hall
  by_cases h1 : 1 ≤ s.size
  · by_cases h2 : s.size ≤ 32
    · go_enter Tryd.func28, Tryd.ntmps28
      go_wp2_with fail
      go_loop [22] (fun i => ∃ k : Nat, k ≤ s.size ∧ i = .int .i64 k ∧ spanL letterC (bts s) = k + spanL letterC ((bts s).drop k)) (fun i => s.size - (intOf i).toNat)
      case atStart => exact ⟨0, Nat.zero_le _, rfl, by simp⟩
      case round =>
        obtain ⟨k, hk, rfl, hsp⟩ := hrel
        have Hsp := Lib.hid hsp
        clear hsp
        by_cases hlt : k < s.size
        · have hb : s[k].toNat < 256 := s[k].toNat_lt
          cases hp : letterC (s[k].toNat : Int) with
          | true =>
            have Hd := Lib.hid (spanL_drop_yes (p := letterC) hlt hp)
            go_wp2_with (go_at_call 29; refine (nm1 _ _).mono ?_; rintro e w' ⟨rfl, rfl⟩)
            go_round
            case rel => exact ⟨k + 1, by omega, by go_num, by rw [Hsp.out, Hd.out]; omega⟩
            case measure => simp [intOf]; omega
          | false =>
            have Hd := Lib.hid (spanL_drop_no (p := letterC) hlt hp)
            go_wp2_with (go_at_call 29; refine (nm1 _ _).mono ?_; rintro e w' ⟨rfl, rfl⟩)
            go_ret
            exact ⟨ret_bool (by rw [Hall.out, Hsp.out, Hd.out, decide_eq_false (by omega)]; rfl), rfl⟩
        · have Hd : Hid (spanL letterC (bts s) = s.size) := Lib.hid (by rw [Hsp.out, List.drop_eq_nil_of_le (by rw [bts_len]; omega)]; simp [spanL]; omega)
          have HF : Hid (allB letterC 1 32 (bts s) = true) := Lib.hid (by rw [Hall.out, Hd.out, decide_eq_true h1, decide_eq_true h2]; simp)
          go_wp2_with fail
          go_ret
          exact ⟨ret_bool (by rw [HF.out]), rfl⟩
    · have HF : Hid (allB letterC 1 32 (bts s) = false) := Lib.hid (by rw [Hall.out, decide_eq_false h2]; simp)
      go_enter Tryd.func28, Tryd.ntmps28
      go_wp2_with fail
      go_ret
      exact ⟨ret_bool (by rw [HF.out]), rfl⟩
  · try (exfalso; omega)
    all_goals
      have HF : Hid (allB letterC 1 32 (bts s) = false) := Lib.hid (by rw [Hall.out, decide_eq_false h1]; simp)
      go_enter Tryd.func28, Tryd.ntmps28
      go_wp2_with fail
      go_ret
      exact ⟨ret_bool (by rw [HF.out]), rfl⟩
theorem all_val (s : ByteArray) (w : World) (hs : s.size ≤ 9223372036854775807) :
    Calls Tryd.prog 28 #[.string s, .int .i64 0, .int .i64 40, .func (.func 30) #[] #[]] w fun e w' => e = .returned (.bool (allB quotedC 0 40 (bts s))) ∧ w = w' := by
  have hall : allB quotedC 0 40 (bts s) = (decide (spanL quotedC (bts s) = s.size) && (decide (0 ≤ s.size) && decide (s.size ≤ 40))) := by unfold allB; rw [bts_len]
  have Hall := Lib.hid hall
  clear hall
  by_cases h1 : 0 ≤ s.size
  · by_cases h2 : s.size ≤ 40
    · go_enter Tryd.func28, Tryd.ntmps28
      go_wp2_with fail
      go_loop [22] (fun i => ∃ k : Nat, k ≤ s.size ∧ i = .int .i64 k ∧ spanL quotedC (bts s) = k + spanL quotedC ((bts s).drop k)) (fun i => s.size - (intOf i).toNat)
      case atStart => exact ⟨0, Nat.zero_le _, rfl, by simp⟩
      case round =>
        obtain ⟨k, hk, rfl, hsp⟩ := hrel
        have Hsp := Lib.hid hsp
        clear hsp
        by_cases hlt : k < s.size
        · have hb : s[k].toNat < 256 := s[k].toNat_lt
          cases hp : quotedC (s[k].toNat : Int) with
          | true =>
            have Hd := Lib.hid (spanL_drop_yes (p := quotedC) hlt hp)
            go_wp2_with (go_at_call 30; refine (vl1 _ _).mono ?_; rintro e w' ⟨rfl, rfl⟩)
            go_round
            case rel => exact ⟨k + 1, by omega, by go_num, by rw [Hsp.out, Hd.out]; omega⟩
            case measure => simp [intOf]; omega
          | false =>
            have Hd := Lib.hid (spanL_drop_no (p := quotedC) hlt hp)
            go_wp2_with (go_at_call 30; refine (vl1 _ _).mono ?_; rintro e w' ⟨rfl, rfl⟩)
            go_ret
            exact ⟨ret_bool (by rw [Hall.out, Hsp.out, Hd.out, decide_eq_false (by omega)]; rfl), rfl⟩
        · have Hd : Hid (spanL quotedC (bts s) = s.size) := Lib.hid (by rw [Hsp.out, List.drop_eq_nil_of_le (by rw [bts_len]; omega)]; simp [spanL]; omega)
          have HF : Hid (allB quotedC 0 40 (bts s) = true) := Lib.hid (by rw [Hall.out, Hd.out, decide_eq_true h1, decide_eq_true h2]; simp)
          go_wp2_with fail
          go_ret
          exact ⟨ret_bool (by rw [HF.out]), rfl⟩
    · have HF : Hid (allB quotedC 0 40 (bts s) = false) := Lib.hid (by rw [Hall.out, decide_eq_false h2]; simp)
      go_enter Tryd.func28, Tryd.ntmps28
      go_wp2_with fail
      go_ret
      exact ⟨ret_bool (by rw [HF.out]), rfl⟩
  · try (exfalso; omega)
    all_goals
      have HF : Hid (allB quotedC 0 40 (bts s) = false) := Lib.hid (by rw [Hall.out, decide_eq_false h1]; simp)
      go_enter Tryd.func28, Tryd.ntmps28
      go_wp2_with fail
      go_ret
      exact ⟨ret_bool (by rw [HF.out]), rfl⟩
theorem name_any (s : ByteArray) (w : World) (hs : s.size ≤ 9223372036854775807) : Calls Tryd.prog 15 #[.string s] w fun e w' => e = .returned (.bool (nameB s)) ∧ w = w' := by
  go_enter Tryd.func15, Tryd.ntmps15
  go_wp2_with fail
  refine (all_name s _ hs).mono ?_
  rintro e w' ⟨rfl, rfl⟩
  go_wp2_with fail
  go_ret
  exact ⟨rfl, rfl⟩
theorem val_any (s : ByteArray) (w : World) (hs : s.size ≤ 9223372036854775807) : Calls Tryd.prog 17 #[.string s] w fun e w' => e = .returned (.bool (valB s)) ∧ w = w' := by
  go_enter Tryd.func17, Tryd.ntmps17
  go_wp2_with fail
  refine (all_val s _ hs).mono ?_
  rintro e w' ⟨rfl, rfl⟩
  go_wp2_with fail
  go_ret
  exact ⟨rfl, rfl⟩
end Go.Proofs.YtilbofkpjgcchaaDoor
