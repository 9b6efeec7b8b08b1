/- The reference's names, values. -/
import Derived.Test.YtilbofkpjgcchaaDoorBatA
namespace Go.Proofs.YtilbofkpjgcchaaDoor
set_option maxRecDepth 100000
set_option maxHeartbeats 2000000
set_option linter.unusedVariables false
set_option linter.unusedSimpArgs false
open Go.RowKit

theorem let_yes {c : Int} (h : 97 ≤ c ∧ c ≤ 122 ∨ 48 ≤ c ∧ c ≤ 57 ∨ c = 95) : (97 ≤ c ∧ c ≤ 122) ∨ (48 ≤ c ∧ c ≤ 57 ∧ c < 97) ∨ (c == 95) = true := by simp; omega
theorem let_no {c : Int} (h : ¬ (97 ≤ c ∧ c ≤ 122 ∨ 48 ≤ c ∧ c ≤ 57 ∨ c = 95)) : (c < 48 ∧ (c == 95) = false) ∨ (57 < c ∧ c < 95 ∧ (c == 95) = false) ∨ (95 < c ∧ c < 97 ∧ (c == 95) = false) ∨ (122 < c ∧ (c == 95) = false) := by simp; omega
theorem quo_yes {c : Int} (h : decide (32 ≤ c ∧ c ≤ 126 ∧ c ≠ 34 ∧ c ≠ 92) = true) : 32 ≤ c ∧ c ≤ 126 ∧ (c == 34) = false ∧ (c == 92) = false := by simp at h ⊢; omega
theorem quo_no {c : Int} (h : ¬ (32 ≤ c ∧ c ≤ 126 ∧ c ≠ 34 ∧ c ≠ 92)) : c < 32 ∨ 126 < c ∨ (32 ≤ c ∧ c ≤ 126 ∧ (c == 34) = true) ∨ (32 ≤ c ∧ c ≤ 126 ∧ (c == 34) = false ∧ (c == 92) = true) := by simp; omega
theorem nameR (s : ByteArray) (w : World) (hs : s.size ≤ 9223372036854775807) :
    Calls Tryd.prog 16 #[.string s] w fun e w' => e = .returned (.bool (allB letterC 1 32 (bts s))) ∧ w = w' := by
  have hall : allB letterC 1 32 (bts s) = (decide (spanL letterC (bts s) = s.size) && (decide (1 ≤ s.size) && decide (s.size ≤ 32))) := by unfold allB; rw [bts_len]
  have Hall := Lib.hid hall
  clear hall
  go_enter Tryd.func16, Tryd.ntmps16
  go_wp2_with fail
  go_loop [7] (fun i => ∃ k : Nat, k ≤ s.size ∧ i = .int .i64 k ∧ spanL letterC (bts s) = k + spanL letterC ((bts s).drop k)) (fun i => s.size - (intOf i).toNat)
  case atStart => exact ⟨0, Nat.zero_le _, rfl, by simp⟩
  case round =>
    obtain ⟨k, hk, rfl, hsp⟩ := hrel
    have Hsp := Lib.hid hsp
    clear hsp
    by_cases hlt : k < s.size
    · have hb : s[k].toNat < 256 := s[k].toNat_lt
      cases hp : letterC (s[k].toNat : Int) with
      | true =>
        have Hd := Lib.hid (spanL_drop_yes (p := letterC) hlt hp)
        unfold letterC at hp
        rcases let_yes (of_decide_eq_true hp) with ⟨h3, h4⟩ | ⟨h3, h4, h5⟩ | h3
        all_goals
          go_wp2_with fail
          all_goals first
            | (exfalso; simp at *; omega)
            | (go_round
               case rel => exact ⟨k + 1, by omega, by go_num, by rw [Hsp.out, Hd.out]; omega⟩
               case measure => simp [intOf]; omega)
      | false =>
        have Hd := Lib.hid (spanL_drop_no (p := letterC) hlt hp)
        have HF : Hid (allB letterC 1 32 (bts s) = false) := Lib.hid (by rw [Hall.out, Hsp.out, Hd.out, decide_eq_false (by omega)]; rfl)
        unfold letterC at hp
        rcases let_no (of_decide_eq_false hp) with ⟨h3, h4⟩ | ⟨h3, h5, h4⟩ | ⟨h3, h5, h4⟩ | ⟨h3, h4⟩
        all_goals
          go_wp2_with fail
          all_goals first
            | (go_ret
               exact ⟨ret_bool (by rw [HF.out]), rfl⟩)
            | (exfalso; simp at *; omega)
    · have Hd : Hid (spanL letterC (bts s) = s.size) := Lib.hid (by rw [Hsp.out, List.drop_eq_nil_of_le (by rw [bts_len]; omega)]; simp [spanL]; omega)
      by_cases h1 : 1 ≤ s.size
      · by_cases h2 : s.size ≤ 32
        · have HF : Hid (allB letterC 1 32 (bts s) = true) := Lib.hid (by rw [Hall.out, Hd.out, decide_eq_true h1, decide_eq_true h2]; simp)
          go_wp2_with fail
          go_ret
          exact ⟨ret_bool (by first | (rw [HF.out]; done) | (rw [HF.out]; simp; done) | (rw [HF.out]; simp; omega)), rfl⟩
        · have HF : Hid (allB letterC 1 32 (bts s) = false) := Lib.hid (by rw [Hall.out, decide_eq_false h2]; simp)
          go_wp2_with fail
          go_ret
          exact ⟨ret_bool (by first | (rw [HF.out]; done) | (rw [HF.out]; simp; done) | (rw [HF.out]; simp; omega)), rfl⟩
      · try (exfalso; omega)
        all_goals (have HF : Hid (allB letterC 1 32 (bts s) = false) := Lib.hid (by rw [Hall.out, decide_eq_false h1]; simp); go_wp2_with fail; go_ret; exact ⟨ret_bool (by first | (rw [HF.out]; done) | (rw [HF.out]; simp; done) | (rw [HF.out]; simp; omega)), rfl⟩)
theorem valR (s : ByteArray) (w : World) (hs : s.size ≤ 9223372036854775807) :
    Calls Tryd.prog 18 #[.string s] w fun e w' => e = .returned (.bool (allB quotedC 0 40 (bts s))) ∧ w = w' := by
  have hall : allB quotedC 0 40 (bts s) = (decide (spanL quotedC (bts s) = s.size) && (decide (0 ≤ s.size) && decide (s.size ≤ 40))) := by unfold allB; rw [bts_len]
  have Hall := Lib.hid hall
  clear hall
  go_enter Tryd.func18, Tryd.ntmps18
  go_wp2_with fail
  go_loop [6] (fun i => ∃ k : Nat, k ≤ s.size ∧ i = .int .i64 k ∧ spanL quotedC (bts s) = k + spanL quotedC ((bts s).drop k)) (fun i => s.size - (intOf i).toNat)
  case atStart => exact ⟨0, Nat.zero_le _, rfl, by simp⟩
  case round =>
    obtain ⟨k, hk, rfl, hsp⟩ := hrel
    have Hsp := Lib.hid hsp
    clear hsp
    by_cases hlt : k < s.size
    · have hb : s[k].toNat < 256 := s[k].toNat_lt
      cases hp : quotedC (s[k].toNat : Int) with
      | true =>
        have Hd := Lib.hid (spanL_drop_yes (p := quotedC) hlt hp)
        unfold quotedC at hp
        obtain ⟨h3, h4, h5, h6⟩ := quo_yes hp
        all_goals
          go_wp2_with fail
          all_goals first
            | (exfalso; simp at *; omega)
            | (go_round
               case rel => exact ⟨k + 1, by omega, by go_num, by rw [Hsp.out, Hd.out]; omega⟩
               case measure => simp [intOf]; omega)
      | false =>
        have Hd := Lib.hid (spanL_drop_no (p := quotedC) hlt hp)
        have HF : Hid (allB quotedC 0 40 (bts s) = false) := Lib.hid (by rw [Hall.out, Hsp.out, Hd.out, decide_eq_false (by omega)]; rfl)
        unfold quotedC at hp
        rcases quo_no (of_decide_eq_false hp) with h3 | h3 | ⟨h3, h4, h5⟩ | ⟨h3, h4, h5, h6⟩
        all_goals
          go_wp2_with fail
          all_goals first
            | (go_ret
               exact ⟨ret_bool (by rw [HF.out]), rfl⟩)
            | (exfalso; simp at *; omega)
    · have Hd : Hid (spanL quotedC (bts s) = s.size) := Lib.hid (by rw [Hsp.out, List.drop_eq_nil_of_le (by rw [bts_len]; omega)]; simp [spanL]; omega)
      by_cases h1 : 0 ≤ s.size
      · by_cases h2 : s.size ≤ 40
        · have HF : Hid (allB quotedC 0 40 (bts s) = true) := Lib.hid (by rw [Hall.out, Hd.out, decide_eq_true h1, decide_eq_true h2]; simp)
          go_wp2_with fail
          go_ret
          exact ⟨ret_bool (by first | (rw [HF.out]; done) | (rw [HF.out]; simp; done) | (rw [HF.out]; simp; omega)), rfl⟩
        · have HF : Hid (allB quotedC 0 40 (bts s) = false) := Lib.hid (by rw [Hall.out, decide_eq_false h2]; simp)
          go_wp2_with fail
          go_ret
          exact ⟨ret_bool (by first | (rw [HF.out]; done) | (rw [HF.out]; simp; done) | (rw [HF.out]; simp; omega)), rfl⟩
      · try (exfalso; omega)
        all_goals (have HF : Hid (allB quotedC 0 40 (bts s) = false) := Lib.hid (by rw [Hall.out, decide_eq_false h1]; simp); go_wp2_with fail; go_ret; exact ⟨ret_bool (by first | (rw [HF.out]; done) | (rw [HF.out]; simp; done) | (rw [HF.out]; simp; omega)), rfl⟩)
end Go.Proofs.YtilbofkpjgcchaaDoor
