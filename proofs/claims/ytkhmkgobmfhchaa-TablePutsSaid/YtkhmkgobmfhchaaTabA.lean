/- Hash, and the reference's. -/
import Derived.Test.YtkhmkgobmfhchaaTabP
import Derived.Test.YtkhmkgobmfhchaaProg
namespace Go.Proofs.Ytkhmkgobmfhchaa
open Go.RowKit

theorem hash_any (s : ByteArray) (w : World) (hs : s.size ≤ 9223372036854775807) :
    Calls Try.prog 16 #[.string s] w fun e w' => e = .returned (.int .u64 (hashL 14695981039346656037 (sbt s))) ∧ w = w' := by
  go_enter Try.func16, Try.ntmps16
  go_wp2
  go_loop [3, 4, 7] (fun n _ i => ∃ k : Nat, k ≤ s.size ∧ i = .int .i64 k ∧ n = .int .u64 (hashL 14695981039346656037 ((sbt s).take k))) (fun _ _ i => s.size - (intOf i).toNat)
  case atStart => exact ⟨0, Nat.zero_le _, rfl, rfl⟩
  case round =>
    obtain ⟨k, hk, rfl, rfl⟩ := hrel
    by_cases hlt : k < s.size
    · have hr := hashL_range 14695981039346656037 ((sbt s).take k) (by omega) (by omega)
      have hb : s[k].toNat < 256 := s[k].toNat_lt
      go_wp2
      go_round
      case rel => exact ⟨k + 1, by omega, by go_num, int_congr (by rw [xor_step _ _ hr.1 hr.2 (by omega) (by omega), take_snoc _ k (by rw [sbt_len]; exact hlt), hashL_snoc, sbt_get s k hlt])⟩
      case measure => simp [intOf]; omega
    · go_wp2
      go_ret
      exact ⟨ret_int (by rw [List.take_of_length_le (by rw [sbt_len]; omega)]), rfl⟩

set_option maxRecDepth 100000 in
theorem refHash_any (s : ByteArray) (w : World) (hs : s.size ≤ 9223372036854775807) :
    Calls Try.prog 17 #[.string s] w fun e w' => e = .returned (.int .u64 (hashL 14695981039346656037 (sbt s))) ∧ ∃ n, w' = w.drewN n := by
  go_enter Try.func17, Try.ntmps17
  go_wp2
  go_loopw [3, 4, 5, 6, 7, 10] (fun h _ _ _ _ i wr => (∃ n, wr = w.drewN n) ∧ ∃ k : Nat, k ≤ s.size ∧ i = .int .i64 k ∧ h = .int .u64 (hashL 14695981039346656037 ((sbt s).take k))) (fun _ _ _ _ _ i _ => s.size - (intOf i).toNat)
  case atStart => exact ⟨⟨0, rfl⟩, 0, Nat.zero_le _, rfl, rfl⟩
  case round =>
    obtain ⟨⟨n0, rfl⟩, k, hk, rfl, rfl⟩ := hrel
    by_cases hlt : k < s.size
    · obtain ⟨hr0, hr1⟩ := hashL_range 14695981039346656037 ((sbt s).take k) (by omega) (by omega)
      have hb : s[k].toNat < 256 := s[k].toNat_lt
      have hfin : ∀ n : Int, n = hashStep (hashL 14695981039346656037 ((sbt s).take k)) s[k].toNat → n = hashL 14695981039346656037 ((sbt s).take (k + 1)) := fun n hn => by
        rw [hn, take_snoc _ k (by rw [sbt_len]; exact hlt), hashL_snoc, sbt_get s k hlt]
      generalize hashL 14695981039346656037 ((sbt s).take k) = h at hr0 hr1 hfin
      obtain ⟨H, rfl⟩ := Int.eq_ofNat_of_zero_le hr0
      have Hfin := Lib.hid hfin
      clear hfin
      go_wp2_with fail
      go_loopw [6, 7, 15] (fun t b i wr => (∃ n, wr = w.drewN n) ∧ ∃ j bt tn : Nat, j ≤ 8 ∧ bt = 2 ^ j ∧ tn = turn (H % 256) s[k].toNat j ∧ i = .int .i64 j ∧ b = .int .u64 bt ∧ t = .int .u64 tn) (fun _ _ i _ => 8 - (intOf i).toNat)
      case atStart => exact ⟨⟨n0, rfl⟩, 0, 1, 0, Nat.zero_le _, rfl, rfl, rfl, rfl, rfl⟩
      case round =>
        obtain ⟨⟨n1, rfl⟩, j, bt, tn, hj, hbt, htn, rfl, rfl, rfl⟩ := hrel
        have hb1 : 0 < bt := by rw [hbt]; exact Nat.pow_pos (by omega)
        have hb2 : bt ≤ 256 := by rw [hbt]; exact Nat.pow_le_pow_right (by omega : 0 < 2) hj
        have ht2 : tn < bt := by rw [htn, hbt]; exact turn_lt _ _ _
        by_cases hj8 : j < 8
        · have hb3 : 2 * bt = 2 ^ (j + 1) := by rw [hbt, Nat.pow_succ]; omega
          by_cases hne : H % 256 / bt % 2 = s[k].toNat / bt % 2
          · have hs2 : tn = turn (H % 256) s[k].toNat (j + 1) := by rw [turn_succ, ← hbt, if_neg (by simpa using hne), ← htn]
            have hd : (((H : Int) % 256 / (bt : Int)).tmod 2 != (IntKind.u64.wrap ((s[k].toNat : Int) / (bt : Int))).tmod 2) = false := by
              have e1 : ((H : Int) % 256 / (bt : Int)).tmod 2 = ((H % 256 / bt % 2 : Nat) : Int) := rfl
              have e2 : (IntKind.u64.wrap ((s[k].toNat : Int) / (bt : Int))).tmod 2 = ((s[k].toNat / bt % 2 : Nat) : Int) := by
                have h1 : s[k].toNat / bt < 18446744073709551616 := Nat.lt_of_le_of_lt (Nat.div_le_self _ _) (by omega)
                have h2 : (s[k].toNat : Int) / (bt : Int) = ((s[k].toNat / bt : Nat) : Int) := rfl
                rw [wrap64, h2]
                generalize s[k].toNat / bt = q at h1
                rw [show (q : Int) % 18446744073709551616 = q from by omega]
                rfl
              rw [e1, e2, hne]; simp
            have Hs2 := Lib.hid hs2
            have Hb3 := Lib.hid hb3
            clear hs2 hb3 hbt htn hne hr0 hr1
            go_wp2_with fail
            go_quiet (fail)
            go_wp2
            go_roundw
            case rel => exact ⟨⟨_, rfl⟩, j + 1, 2 * bt, tn, by omega, Hb3.out, Hs2.out, by go_num, int_congr (by omega), rfl⟩
            case measure => simp [intOf]; omega
          · have hs2 : tn + bt = turn (H % 256) s[k].toNat (j + 1) := by rw [turn_succ, ← hbt, if_pos (by simpa using hne), ← htn]
            have hd : (((H : Int) % 256 / (bt : Int)).tmod 2 != (IntKind.u64.wrap ((s[k].toNat : Int) / (bt : Int))).tmod 2) = true := by
              have e1 : ((H : Int) % 256 / (bt : Int)).tmod 2 = ((H % 256 / bt % 2 : Nat) : Int) := rfl
              have e2 : (IntKind.u64.wrap ((s[k].toNat : Int) / (bt : Int))).tmod 2 = ((s[k].toNat / bt % 2 : Nat) : Int) := by
                have h1 : s[k].toNat / bt < 18446744073709551616 := Nat.lt_of_le_of_lt (Nat.div_le_self _ _) (by omega)
                have h2 : (s[k].toNat : Int) / (bt : Int) = ((s[k].toNat / bt : Nat) : Int) := rfl
                rw [wrap64, h2]
                generalize s[k].toNat / bt = q at h1
                rw [show (q : Int) % 18446744073709551616 = q from by omega]
                rfl
              rw [e1, e2]; exact bne_iff_ne.2 (fun h => hne (Int.ofNat.inj h))
            have Hs2 := Lib.hid hs2
            have Hb3 := Lib.hid hb3
            clear hs2 hb3 hbt htn hne hr0 hr1
            go_wp2_with fail
            go_quiet (fail)
            go_wp2
            go_roundw
            case rel => exact ⟨⟨_, rfl⟩, j + 1, 2 * bt, tn + bt, by omega, Hb3.out, Hs2.out, by go_num, int_congr (by omega), int_congr (by omega)⟩
            case measure => simp [intOf]; omega
        · obtain rfl : j = 8 := by omega
          have hx := xor_turn H s[k].toNat (by omega)
          rw [← htn] at hx
          have hle : H % 256 ≤ H := Nat.mod_le _ _
          have Hx := Lib.hid hx
          clear hx htn hbt
          go_wp2_with fail
          go_roundw
          case rel =>
            refine ⟨⟨_, rfl⟩, k + 1, by omega, by go_num, int_congr (Hfin.out _ ?_)⟩
            have hx := Hx.out
            rw [wrap64]
            unfold hashStep
            rw [Int.toNat_natCast, Int.toNat_natCast, hx]
            congr 2
            omega
          case measure => simp [intOf]; omega
    · go_wp2
      go_ret
      exact ⟨ret_int (by rw [List.take_of_length_le (by rw [sbt_len]; omega)]), _, rfl⟩
end Go.Proofs.Ytkhmkgobmfhchaa
