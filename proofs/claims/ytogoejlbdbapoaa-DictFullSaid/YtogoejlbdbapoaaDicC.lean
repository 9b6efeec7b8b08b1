/- The reference's names of kinds. -/
import Derived.Test.YtogoejlbdbapoaaDicA
namespace Go.Proofs.Ytogoejlbdbapoaa
set_option maxRecDepth 100000
set_option maxHeartbeats 2000000
set_option linter.unusedVariables false
set_option linter.unusedSimpArgs false
open Go.RowKit

/-- Of which bytes a kind's names are. -/
def byteB (k : Int) (c : Int) : Bool := if k < 4 then letterC c else if k = 4 then quotedC c else true
theorem mayB_eq (k : Int) (l : List UInt8) : mayB k l = (decide (spanL (byteB k) l = l.length) && (decide (0 ≤ k) && decide (k < 4) && (decide (1 ≤ l.length) && decide (l.length ≤ 32)) || (decide (k = 4) && decide (l.length ≤ 40)))) := by
  unfold mayB
  by_cases h4 : k = 4
  · subst h4
    have e : byteB 4 = quotedC := by funext c; unfold byteB; rw [if_neg (by omega), if_pos rfl]
    rw [e]
    unfold worthB allB
    simp
  · by_cases hk : 0 ≤ k ∧ k < 4
    · have e : byteB k = letterC := by funext c; unfold byteB; rw [if_pos hk.2]
      rw [e, decide_eq_true hk.1, decide_eq_true (show k ≤ 4 by omega), decide_eq_true hk.2, decide_eq_false h4, if_neg h4]
      unfold nameB allB
      simp
    · have e : (decide (0 ≤ k) && (decide (k ≤ 4) && (if k = 4 then worthB l else nameB l))) = false := by
        by_cases h0 : 0 ≤ k
        · rw [decide_eq_false (show ¬ k ≤ 4 by omega)]; simp
        · rw [decide_eq_false h0]; rfl
      have e2 : (decide (0 ≤ k) && decide (k < 4)) = false := by
        by_cases h0 : 0 ≤ k
        · rw [decide_eq_false (show ¬ k < 4 by omega)]; simp
        · rw [decide_eq_false h0]; rfl
      rw [e, e2, decide_eq_false h4]; simp
set_option maxHeartbeats 4000000 in
theorem refMay_any (k : Int) (s : ByteArray) (w : World) (hs : s.size ≤ 9223372036854775807) :
    Calls Try.prog 18 #[.int .i64 k, .string s] w fun e w' => e = .returned (.bool (mayB k (bts s))) ∧ w = w' := by
  have he := mayB_eq k (bts s)
  rw [bts_len] at he
  obtain ⟨r, hr⟩ : ∃ r, mayB k (bts s) = r := ⟨_, rfl⟩
  have hk : k < 4 ∨ k = 4 ∨ 4 < k := by omega
  have hb : ∀ c, byteB k c = if k < 4 then letterC c else if k = 4 then quotedC c else true := fun _ => rfl
  have HB := Lib.hid hb
  have HE := Lib.hid he
  clear he hb hr r
  go_enter Try.func18, Try.ntmps18
  go_wp2_with fail
  go_loopw [11] (fun i wr => ∃ j : Nat, j ≤ s.size ∧ i = .int .i64 j ∧ wr = w ∧ spanL (byteB k) (bts s) = j + spanL (byteB k) ((bts s).drop j)) (fun i _ => s.size - (intOf i).toNat)
  case atStart => exact ⟨0, Nat.zero_le _, rfl, rfl, by simp⟩
  case round =>
    obtain ⟨j, hj, rfl, rfl, hsp⟩ := hrel
    have Hsp := Lib.hid hsp
    clear hsp
    by_cases hlt : j < s.size
    · have hb8 : s[j].toNat < 256 := s[j].toNat_lt
      have HYes := Lib.hid (fun h => spanL_drop_yes (p := byteB k) hlt h)
      have HNo := Lib.hid (fun h => spanL_drop_no (p := byteB k) hlt h)
      have HBj := Lib.hid (HB.out (s[j].toNat : Int))
      obtain ⟨c, hc⟩ : ∃ c : Int, (s[j].toNat : Int) = c := ⟨_, rfl⟩
      rw [hc] at HYes HNo HBj
      go_upto_region 5 with fail
      try simp only [hc]
      have h0 : 0 ≤ c := by omega
      have h256 : c < 256 := by omega
      clear hc hb8
      go_cut [7] (fun s7 wx => s7 = .bool (letterC c) ∧ wx = wr)
      case first =>
        go_wp2
        all_goals (go_meet; exact ⟨congrArg Value.bool (by unfold letterC; rw [Bool.eq_iff_iff]; simp; try omega), rfl⟩)
      case rest =>
        obtain ⟨rfl, hwc⟩ := hcut
        rw [hwc]
        clear hwc
        go_upto_region 6 with fail
        go_cut [8] (fun s8 wx => s8 = .bool (quotedC c) ∧ wx = wr)
        case first =>
          cases hq : quotedC c with
          | true =>
            have HQ := Lib.hid hq
            have hq' := of_decide_eq_true hq
            have q1 : (c != 34) = true := by simp; omega
            have q2 : (c != 92) = true := by simp; omega
            have q3 : 32 ≤ c := by omega
            have q4 : c ≤ 126 := by omega
            clear hq hq'
            go_wp2_with fail
            go_meet
            exact ⟨congrArg Value.bool HQ.out.symm, rfl⟩
          | false =>
            have HQ := Lib.hid hq
            have hq' := of_decide_eq_false hq
            clear hq
            have hc : c < 32 ∨ 126 < c ∨ (32 ≤ c ∧ c ≤ 126 ∧ (c != 34) = false) ∨ (32 ≤ c ∧ c ≤ 126 ∧ (c != 34) = true ∧ (c != 92) = false) := by simp; omega
            clear hq'
            rcases hc with h | h | ⟨h, h', h2⟩ | ⟨h, h', h2, h3⟩
            all_goals
              go_wp2_with fail
              go_meet
              exact ⟨congrArg Value.bool HQ.out.symm, rfl⟩
        case rest =>
          obtain ⟨rfl, hwc⟩ := hcut
          rw [hwc]
          clear hwc
          have hyes := HYes.out
          have hno := HNo.out
          rw [HBj.out] at hyes hno
          generalize letterC c = b1 at *
          generalize quotedC c = b2 at *
          have HF : Hid (spanL (byteB k) ((bts s).drop j) = 0 → mayB k (bts s) = false) := Lib.hid (fun h => by rw [HE.out, Hsp.out, h, decide_eq_false (by omega)]; rfl)
          rcases hk with h4 | h4 | h4
          · have k4 : (k == 4) = false := by simp; omega
            rw [if_pos h4] at hyes hno
            cases b1 with
            | true =>
              have HY := Lib.hid (hyes rfl)
              clear hyes hno
              go_wp2_with fail
              go_roundw
              case rel => exact ⟨j + 1, by omega, by go_num, by trivial, by rw [Hsp.out, HY.out]; omega⟩
              case measure => simp [intOf]; omega
            | false =>
              have HN := Lib.hid (HF.out (hno rfl))
              clear hyes hno
              go_wp2_with fail
              go_ret
              exact ⟨ret_bool HN.out.symm, rfl⟩
          · subst h4
            rw [if_neg (by omega), if_pos rfl] at hyes hno
            cases b2 with
            | true =>
              have HY := Lib.hid (hyes rfl)
              clear hyes hno
              go_wp2_with fail
              go_roundw
              case rel => exact ⟨j + 1, by omega, by go_num, by trivial, by rw [Hsp.out, HY.out]; omega⟩
              case measure => simp [intOf]; omega
            | false =>
              have HN := Lib.hid (HF.out (hno rfl))
              clear hyes hno
              go_wp2_with fail
              go_ret
              exact ⟨ret_bool HN.out.symm, rfl⟩
          · have k4 : (k == 4) = false := by simp; omega
            have h4' : ¬ k < 4 := by omega
            rw [if_neg h4', if_neg (by omega)] at hyes hno
            have HY := Lib.hid (hyes rfl)
            clear hyes hno
            go_wp2_with fail
            go_roundw
            case rel => exact ⟨j + 1, by omega, by go_num, by trivial, by rw [Hsp.out, HY.out]; omega⟩
            case measure => simp [intOf]; omega
    · have hd : spanL (byteB k) ((bts s).drop j) = 0 := by rw [List.drop_eq_nil_of_le (by rw [bts_len]; omega)]; rfl
      have HF : Hid (mayB k (bts s) = (decide (0 ≤ k) && decide (k < 4) && (decide (1 ≤ s.size) && decide (s.size ≤ 32)) || (decide (k = 4) && decide (s.size ≤ 40)))) := Lib.hid (by rw [HE.out, Hsp.out, hd, decide_eq_true (by omega)]; rfl)
      clear hd
      have hk' : k < 0 ∨ (0 ≤ k ∧ k < 4) ∨ k = 4 ∨ 4 < k := by omega
      clear hk
      rcases hk' with h | h | h | h
      all_goals
        try subst h
        go_wp2
        all_goals
          go_ret
          exact ⟨ret_bool (by rw [HF.out, Bool.eq_iff_iff]; simp <;> omega), rfl⟩
end Go.Proofs.Ytogoejlbdbapoaa
