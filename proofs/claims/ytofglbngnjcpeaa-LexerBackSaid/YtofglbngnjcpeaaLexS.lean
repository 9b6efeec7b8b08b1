/- The reference's letters, words, signs. -/
import Derived.Test.YtofglbngnjcpeaaLexE
namespace Go.Proofs.Ytofglbngnjcpeaa
set_option maxRecDepth 100000
set_option maxHeartbeats 2000000
set_option linter.unusedVariables false
set_option linter.unusedSimpArgs false
open Go.RowKit

theorem letterR (c : Int) (w : World) : Calls Try.prog 35 #[.int .u8 c] w fun e w' => e = .returned (.bool (letterC c)) ∧ w = w' := by
  go_enter Try.func35, Try.ntmps35
  go_wp2
  all_goals (go_ret; exact ⟨ret_bool (by unfold letterC; rw [Bool.eq_iff_iff]; simp; try omega), rfl⟩)
theorem quotedR (c : Int) (w : World) : Calls Try.prog 39 #[.int .u8 c] w fun e w' => e = .returned (.bool (quotedC c)) ∧ w = w' := by
  go_enter Try.func39, Try.ntmps39
  go_wp2
  all_goals (go_ret; exact ⟨ret_bool (by unfold quotedC; rw [Bool.eq_iff_iff]; simp; try omega), rfl⟩)

theorem run_any (s : ByteArray) (w : World) (hs : s.size ≤ 9223372036854775807) :
    Calls Try.prog 36 #[.string s] w fun e w' => e = .returned (.int .i64 (spanL letterC (bts s))) ∧ w = w' := by
  go_enter Try.func36, Try.ntmps36
  go_wp2_with fail
  go_loop [3] (fun i => ∃ k : Nat, k ≤ s.size ∧ i = .int .i64 k ∧ spanL letterC (bts s) = k + spanL letterC ((bts s).drop k)) (fun i => s.size - (intOf i).toNat)
  case atStart => exact ⟨0, Nat.zero_le _, rfl, by simp⟩
  case round =>
    obtain ⟨k, hk, rfl, hsp⟩ := hrel
    have Hsp := Lib.hid hsp
    clear hsp
    by_cases hlt : k < s.size
    · have hb : s[k].toNat < 256 := s[k].toNat_lt
      cases hp : letterC (s[k].toNat : Int) with
      | true =>
        have Hd := Lib.hid (spanL_drop_yes (p := letterC) hlt hp)
        go_wp2_with (go_at_call 35; refine (letterR _ _).mono ?_; rintro e w' ⟨rfl, rfl⟩)
        go_round
        case rel => exact ⟨k + 1, by omega, by go_num, by rw [Hsp.out, Hd.out]; omega⟩
        case measure => simp [intOf]; omega
      | false =>
        have Hd := Lib.hid (spanL_drop_no (p := letterC) hlt hp)
        go_wp2_with (go_at_call 35; refine (letterR _ _).mono ?_; rintro e w' ⟨rfl, rfl⟩)
        go_ret
        exact ⟨ret_int (by rw [Hsp.out, Hd.out]; omega), rfl⟩
    · have Hd : Hid (spanL letterC ((bts s).drop k) = 0) := Lib.hid (by rw [List.drop_eq_nil_of_le (by rw [bts_len]; omega)]; rfl)
      go_wp2_with fail
      go_ret
      exact ⟨ret_int (by rw [Hsp.out, Hd.out]; omega), rfl⟩

theorem prefix_take (s p : ByteArray) (h : p.size ≤ s.size) : ((s.extract 0 p.size).toList == p.toList) = (bts p).isPrefixOf (bts s) := by
  rw [ByteArray.toList_eq, ByteArray.toList_eq]
  have e : (s.extract 0 p.size).data.toList = (bts s).take p.size := by
    have := bts_extract s 0 p.size
    unfold bts at this ⊢
    rw [this]; simp
  rw [e, Bool.eq_iff_iff, beq_iff_eq, List.isPrefixOf_iff_prefix]
  constructor
  · intro h'
    have : bts p = (bts s).take p.size := h'.symm
    rw [this]; exact List.take_prefix _ _
  · intro h'
    have := List.prefix_iff_eq_take.1 h'
    rw [bts_len] at this
    exact this.symm
theorem startsR (s p : ByteArray) (w : World) (hs : s.size ≤ 9223372036854775807) :
    Calls Try.prog 37 #[.string s, .string p] w fun e w' => e = .returned (.bool ((bts p).isPrefixOf (bts s))) ∧ w = w' := by
  by_cases h : p.size ≤ s.size
  · have hp := Lib.hid (prefix_take s p h)
    go_enter Try.func37, Try.ntmps37
    go_wp2_with fail
    go_ret
    exact ⟨ret_bool hp.out, rfl⟩
  · have hp : (bts p).isPrefixOf (bts s) = false := by
      rw [Bool.eq_false_iff]
      intro h'
      have := (List.isPrefixOf_iff_prefix.1 h').length_le
      rw [bts_len, bts_len] at this; omega
    rw [hp]
    clear hp
    go_enter Try.func37, Try.ntmps37
    go_wp2_with fail
    go_ret
    exact ⟨rfl, rfl⟩

/-- A row of bytes that all hold, and how many there may be. -/
def allB (p : Int → Bool) (lo hi : Nat) (l : List UInt8) : Bool := decide (spanL p l = l.length) && (decide (lo ≤ l.length) && decide (l.length ≤ hi))
theorem wordR (s : ByteArray) (w : World) (hs : s.size ≤ 9223372036854775807) :
    Calls Try.prog 27 #[.string s] w fun e w' => e = .returned (.bool (allB letterC 1 32 (bts s))) ∧ w = w' := by
  have hall : allB letterC 1 32 (bts s) = (decide (spanL letterC (bts s) = s.size) && (decide (1 ≤ s.size) && decide (s.size ≤ 32))) := by unfold allB; rw [bts_len]
  have Hall := Lib.hid hall
  clear hall
  go_enter Try.func27, Try.ntmps27
  go_wp2_with fail
  go_loop [6] (fun i => ∃ k : Nat, k ≤ s.size ∧ i = .int .i64 k ∧ spanL letterC (bts s) = k + spanL letterC ((bts s).drop k)) (fun i => s.size - (intOf i).toNat)
  case atStart => exact ⟨0, Nat.zero_le _, rfl, by simp⟩
  case round =>
    obtain ⟨k, hk, rfl, hsp⟩ := hrel
    have Hsp := Lib.hid hsp
    clear hsp
    by_cases hlt : k < s.size
    · have hb : s[k].toNat < 256 := s[k].toNat_lt
      cases hp : letterC (s[k].toNat : Int) with
      | true =>
        have Hd := Lib.hid (spanL_drop_yes (p := letterC) hlt hp)
        go_wp2_with (go_at_call 35; refine (letterR _ _).mono ?_; rintro e w' ⟨rfl, rfl⟩)
        go_round
        case rel => exact ⟨k + 1, by omega, by go_num, by rw [Hsp.out, Hd.out]; omega⟩
        case measure => simp [intOf]; omega
      | false =>
        have Hd := Lib.hid (spanL_drop_no (p := letterC) hlt hp)
        go_wp2_with (go_at_call 35; refine (letterR _ _).mono ?_; rintro e w' ⟨rfl, rfl⟩)
        go_ret
        exact ⟨ret_bool (by rw [Hall.out, Hsp.out, Hd.out, decide_eq_false (by omega)]; rfl), rfl⟩
    · have Hd : Hid (spanL letterC (bts s) = s.size) := Lib.hid (by rw [Hsp.out, List.drop_eq_nil_of_le (by rw [bts_len]; omega)]; simp [spanL]; omega)
      by_cases h1 : 1 ≤ s.size
      · by_cases h2 : s.size ≤ 32
        · have HF : Hid (allB letterC 1 32 (bts s) = true) := Lib.hid (by rw [Hall.out, Hd.out, decide_eq_true h1, decide_eq_true h2]; simp)
          go_wp2_with fail
          go_ret
          exact ⟨ret_bool (by first | (rw [HF.out]; done) | (rw [HF.out]; simp; done) | (rw [HF.out]; simp; omega)), rfl⟩
        · have HF : Hid (allB letterC 1 32 (bts s) = false) := Lib.hid (by rw [Hall.out, decide_eq_false h2]; simp)
          go_wp2_with fail
          go_ret
          exact ⟨ret_bool (by first | (rw [HF.out]; done) | (rw [HF.out]; simp; done) | (rw [HF.out]; simp; omega)), rfl⟩
      · try (exfalso; omega)
        all_goals (have HF : Hid (allB letterC 1 32 (bts s) = false) := Lib.hid (by rw [Hall.out, decide_eq_false h1]; simp); go_wp2_with fail; go_ret; exact ⟨ret_bool (by first | (rw [HF.out]; done) | (rw [HF.out]; simp; done) | (rw [HF.out]; simp; omega)), rfl⟩)
theorem worthR (s : ByteArray) (w : World) (hs : s.size ≤ 9223372036854775807) :
    Calls Try.prog 28 #[.string s] w fun e w' => e = .returned (.bool (allB quotedC 0 40 (bts s))) ∧ w = w' := by
  have hall : allB quotedC 0 40 (bts s) = (decide (spanL quotedC (bts s) = s.size) && (decide (0 ≤ s.size) && decide (s.size ≤ 40))) := by unfold allB; rw [bts_len]
  have Hall := Lib.hid hall
  clear hall
  go_enter Try.func28, Try.ntmps28
  go_wp2_with fail
  go_loop [6] (fun i => ∃ k : Nat, k ≤ s.size ∧ i = .int .i64 k ∧ spanL quotedC (bts s) = k + spanL quotedC ((bts s).drop k)) (fun i => s.size - (intOf i).toNat)
  case atStart => exact ⟨0, Nat.zero_le _, rfl, by simp⟩
  case round =>
    obtain ⟨k, hk, rfl, hsp⟩ := hrel
    have Hsp := Lib.hid hsp
    clear hsp
    by_cases hlt : k < s.size
    · have hb : s[k].toNat < 256 := s[k].toNat_lt
      cases hp : quotedC (s[k].toNat : Int) with
      | true =>
        have Hd := Lib.hid (spanL_drop_yes (p := quotedC) hlt hp)
        go_wp2_with (go_at_call 39; refine (quotedR _ _).mono ?_; rintro e w' ⟨rfl, rfl⟩)
        go_round
        case rel => exact ⟨k + 1, by omega, by go_num, by rw [Hsp.out, Hd.out]; omega⟩
        case measure => simp [intOf]; omega
      | false =>
        have Hd := Lib.hid (spanL_drop_no (p := quotedC) hlt hp)
        go_wp2_with (go_at_call 39; refine (quotedR _ _).mono ?_; rintro e w' ⟨rfl, rfl⟩)
        go_ret
        exact ⟨ret_bool (by rw [Hall.out, Hsp.out, Hd.out, decide_eq_false (by omega)]; rfl), rfl⟩
    · have Hd : Hid (spanL quotedC (bts s) = s.size) := Lib.hid (by rw [Hsp.out, List.drop_eq_nil_of_le (by rw [bts_len]; omega)]; simp [spanL]; omega)
      by_cases h1 : 0 ≤ s.size
      · by_cases h2 : s.size ≤ 40
        · have HF : Hid (allB quotedC 0 40 (bts s) = true) := Lib.hid (by rw [Hall.out, Hd.out, decide_eq_true h1, decide_eq_true h2]; simp)
          go_wp2_with fail
          go_ret
          exact ⟨ret_bool (by first | (rw [HF.out]; done) | (rw [HF.out]; simp; done) | (rw [HF.out]; simp; omega)), rfl⟩
        · have HF : Hid (allB quotedC 0 40 (bts s) = false) := Lib.hid (by rw [Hall.out, decide_eq_false h2]; simp)
          go_wp2_with fail
          go_ret
          exact ⟨ret_bool (by first | (rw [HF.out]; done) | (rw [HF.out]; simp; done) | (rw [HF.out]; simp; omega)), rfl⟩
      · try (exfalso; omega)
        all_goals (have HF : Hid (allB quotedC 0 40 (bts s) = false) := Lib.hid (by rw [Hall.out, decide_eq_false h1]; simp); go_wp2_with fail; go_ret; exact ⟨ret_bool (by first | (rw [HF.out]; done) | (rw [HF.out]; simp; done) | (rw [HF.out]; simp; omega)), rfl⟩)

/-- What stands for a kind without a text. -/
def signR (k : Int) : List UInt8 := ((signs.find? (fun x => decide (x.1 = k))).map (·.2)).getD []
theorem signR_no {k : Int} (h : k < 4 ∨ 11 < k) : signR k = [] := by
  unfold signR
  rw [List.find?_eq_none.2 (fun x hx => by
    have : ∀ x ∈ signs, 4 ≤ x.1 ∧ x.1 ≤ 11 := by decide
    have := this x hx
    simp; omega)]
  rfl
theorem sign_any (k : Int) (w : World) : Calls Try.prog 30 #[.int .i64 k] w fun e w' => e = .returned (.string (txt (signR k))) ∧ Ext w w' := by
  by_cases h : k < 4 ∨ 11 < k
  · rw [signR_no h]
    rcases h with h | h
    all_goals
      go_enter Try.func30, Try.ntmps30
      go_wp2_with fail
      go_ret
      exact ⟨rfl, (by repeat (first | exact Ext.refl _ | with_reducible refine Ext.alloc_of ?_ _ | with_reducible refine Ext.drewN_of ?_ _ | with_reducible refine Ext.drew_of ?_ | (with_reducible refine Ext.set_of ?_ ?hsz _; case hsz => ((first | exact Nat.le_refl _ | omega | (simp; omega)))) | with_reducible refine Ext.via (by assumption) ?_))⟩
  · have hk : k = 4 ∨ k = 5 ∨ k = 6 ∨ k = 7 ∨ k = 8 ∨ k = 9 ∨ k = 10 ∨ k = 11 := by omega
    clear h
    rcases hk with rfl | rfl | rfl | rfl | rfl | rfl | rfl | rfl
    all_goals
      go_enter Try.func30, Try.ntmps30
      go_wp2_with fail
      go_ret
      exact ⟨rfl, (by repeat (first | exact Ext.refl _ | with_reducible refine Ext.alloc_of ?_ _ | with_reducible refine Ext.drewN_of ?_ _ | with_reducible refine Ext.drew_of ?_ | (with_reducible refine Ext.set_of ?_ ?hsz _; case hsz => ((first | exact Nat.le_refl _ | omega | (simp; omega)))) | with_reducible refine Ext.via (by assumption) ?_))⟩
end Go.Proofs.Ytofglbngnjcpeaa
