/- The reference's right changes. -/
import Derived.Test.YtilbofkpjgcchaaDoorBatR
import Derived.Test.YtilbofkpjgcchaaDoorBatC
import Derived.Test.YtilbofkpjgcchaaDoorKit
namespace Go.Proofs.YtilbofkpjgcchaaDoor
set_option maxRecDepth 100000
set_option maxHeartbeats 2000000
set_option linter.unusedVariables false
set_option linter.unusedSimpArgs false
open Go.RowKit

def nmB (k : Int) (b0 b1 d1 : Bool) : Bool := b0 && (if k ≤ 2 then d1 else b1)
def vlB (k : Int) (b2 d2 : Bool) : Bool := if k = 5 then b2 else d2
def tlB (k : Int) (b3 d3 : Bool) : Bool := if 7 ≤ k then b3 else d3
theorem okC_parts (k : Int) (key name val to_ : ByteArray) : okC ⟨k, key, name, val, to_⟩ = (decide (1 ≤ k) && (decide (k ≤ 8) && (nmB k (nameB key) (nameB name) (decide (name = ⟨#[]⟩)) && (vlB k (valB val) (decide (val = ⟨#[]⟩)) && tlB k (nameB to_) (decide (to_ = ⟨#[]⟩)))))) := by
  by_cases h1 : 1 ≤ k
  · obtain ⟨n, rfl⟩ := Int.eq_ofNat_of_zero_le (show 0 ≤ k by omega)
    unfold okC nmB vlB tlB
    have e0 : hasOf n 0 = true := decide_eq_true (by omega)
    have e1 : okF 1 (hasOf n 1) name = if (n : Int) ≤ 2 then decide (name = ⟨#[]⟩) else nameB name := by
      by_cases h : (n : Int) ≤ 2
      · have hq : hasOf n 1 = false := decide_eq_false (by omega)
        rw [if_pos h, hq]; rfl
      · have hq : hasOf n 1 = true := decide_eq_true (by omega)
        rw [if_neg h, hq]; rfl
    have e2 : okF 2 (hasOf n 2) val = if (n : Int) = 5 then valB val else decide (val = ⟨#[]⟩) := by
      by_cases h : (n : Int) = 5
      · have hq : hasOf n 2 = true := decide_eq_true (by omega)
        rw [if_pos h, hq]; rfl
      · have hq : hasOf n 2 = false := decide_eq_false (by omega)
        rw [if_neg h, hq]; rfl
    have e3 : okF 3 (hasOf n 3) to_ = if 7 ≤ (n : Int) then nameB to_ else decide (to_ = ⟨#[]⟩) := by
      by_cases h : 7 ≤ (n : Int)
      · have hq : hasOf n 3 = true := decide_eq_true (by omega)
        rw [if_pos h, hq]; rfl
      · have hq : hasOf n 3 = false := decide_eq_false (by omega)
        rw [if_neg h, hq]; rfl
    have e00 : okF 0 true key = nameB key := rfl
    simp only [Int.toNat_natCast, e0, e1, e2, e3, e00, Bool.and_assoc]
  · unfold okC
    simp [h1]
set_option maxHeartbeats 16000000 in
theorem rightR (c : Ch) (w : World) (hf : c.Fits) :
    Calls Tryd.prog 11 #[c.v] w fun e w' => e = .returned (.bool (okC c)) ∧ Ext w w' := by
  obtain ⟨k, key, name, val, to_⟩ := c
  obtain ⟨z0, z1, z2, z3⟩ := hf
  dsimp only at z0 z1 z2 z3
  unfold Ch.v
  dsimp only
  have ho := okC_parts k key name val to_
  have hr := RowAt.new w 27 [.int .i64 k, .string key, .string name, .string val, .string to_]
  have e1 := empty_beq name
  have e2 := empty_beq val
  have e3 := empty_beq to_
  have hn0 := fun w => nameR key w z0
  have hn1 := fun w => nameR name w z1
  have hv2 := fun w => valR val w z2
  have hn3 := fun w => nameR to_ w z3
  change ∀ w, Calls Tryd.prog _ _ w fun e w' => e = .returned (.bool (nameB key)) ∧ w = w' at hn0
  change ∀ w, Calls Tryd.prog _ _ w fun e w' => e = .returned (.bool (nameB name)) ∧ w = w' at hn1
  change ∀ w, Calls Tryd.prog _ _ w fun e w' => e = .returned (.bool (valB val)) ∧ w = w' at hv2
  change ∀ w, Calls Tryd.prog _ _ w fun e w' => e = .returned (.bool (nameB to_)) ∧ w = w' at hn3
  generalize nameB key = b0 at *
  generalize nameB name = b1 at *
  generalize valB val = b2 at *
  generalize nameB to_ = b3 at *
  generalize decide (name = ⟨#[]⟩) = d1 at *
  generalize decide (val = ⟨#[]⟩) = d2 at *
  generalize decide (to_ = ⟨#[]⟩) = d3 at *
  have H0 := Lib.hid hn0
  have H1 := Lib.hid hn1
  have H2 := Lib.hid hv2
  have H3 := Lib.hid hn3
  obtain ⟨nm, hnm⟩ : ∃ b, b = nmB k b0 b1 d1 := ⟨_, rfl⟩
  obtain ⟨vl, hvl⟩ : ∃ b, b = vlB k b2 d2 := ⟨_, rfl⟩
  obtain ⟨tl, htl⟩ : ∃ b, b = tlB k b3 d3 := ⟨_, rfl⟩
  rw [← hnm, ← hvl, ← htl] at ho
  have HO := Lib.hid ho
  have HNM := Lib.hid hnm
  have HVL := Lib.hid hvl
  have HTL := Lib.hid htl
  clear hn0 hn1 hv2 hn3 ho hnm hvl htl
  go_enter Tryd.func11, Tryd.ntmps11
  go_upto_region 1 with fail
  have hx0 := Ext.alloc w (.cells #[.int .i64 k, .string key, .string name, .string val, .string to_] 27)
  generalize w.alloc (.cells #[.int .i64 k, .string key, .string name, .string val, .string to_] 27) = w1 at *
  obtain ⟨c0, c1, c2, c3, c4, f0, f1, f2, f3, f4⟩ := hr.facts5
  clear hr
  go_cut [3] (fun s3 wx => s3 = .bool nm ∧ wx = w1)
  case first =>
    by_cases hk : k ≤ 2
    · cases b0 <;> cases d1
      all_goals
        go_wp2_with (first | (go_at_call_of 16 (Value.string key); refine (H0.out _).mono ?_; rintro e w' ⟨rfl, rfl⟩) | (go_at_call_of 16 (Value.string name); refine (H1.out _).mono ?_; rintro e w' ⟨rfl, rfl⟩) | (go_at_call_of 16 (Value.string to_); refine (H3.out _).mono ?_; rintro e w' ⟨rfl, rfl⟩) | (go_at_call 18; refine (H2.out _).mono ?_; rintro e w' ⟨rfl, rfl⟩))
        go_meet
        exact ⟨congrArg Value.bool (by rw [HNM.out]; unfold nmB; first | rfl | (rw [if_pos (by omega)]; done) | (rw [if_neg (by omega)]; done) | (rw [if_pos (by omega)]; rfl) | (rw [if_neg (by omega)]; rfl)), rfl⟩
    · have hk' : 2 < k := by omega
      cases b0 <;> cases b1
      all_goals
        go_wp2_with (first | (go_at_call_of 16 (Value.string key); refine (H0.out _).mono ?_; rintro e w' ⟨rfl, rfl⟩) | (go_at_call_of 16 (Value.string name); refine (H1.out _).mono ?_; rintro e w' ⟨rfl, rfl⟩) | (go_at_call_of 16 (Value.string to_); refine (H3.out _).mono ?_; rintro e w' ⟨rfl, rfl⟩) | (go_at_call 18; refine (H2.out _).mono ?_; rintro e w' ⟨rfl, rfl⟩))
        go_meet
        exact ⟨congrArg Value.bool (by rw [HNM.out]; unfold nmB; first | rfl | (rw [if_pos (by omega)]; done) | (rw [if_neg (by omega)]; done) | (rw [if_pos (by omega)]; rfl) | (rw [if_neg (by omega)]; rfl)), rfl⟩
  case rest =>
    obtain ⟨rfl, hwc⟩ := hcut
    rw [hwc]
    clear hwc
    go_upto_region 2 with fail
    go_cut [4] (fun s4 wx => s4 = .bool vl ∧ wx = w1)
    case first =>
      by_cases hk : k = 5
      · subst hk
        cases b2
        all_goals
          go_wp2_with (first | (go_at_call_of 16 (Value.string key); refine (H0.out _).mono ?_; rintro e w' ⟨rfl, rfl⟩) | (go_at_call_of 16 (Value.string name); refine (H1.out _).mono ?_; rintro e w' ⟨rfl, rfl⟩) | (go_at_call_of 16 (Value.string to_); refine (H3.out _).mono ?_; rintro e w' ⟨rfl, rfl⟩) | (go_at_call 18; refine (H2.out _).mono ?_; rintro e w' ⟨rfl, rfl⟩))
          go_meet
          exact ⟨congrArg Value.bool (by rw [HVL.out]; unfold vlB; first | rfl | (rw [if_pos (by omega)]; done) | (rw [if_neg (by omega)]; done) | (rw [if_pos (by omega)]; rfl) | (rw [if_neg (by omega)]; rfl)), rfl⟩
      · have k5 : (k == 5) = false := by simp [hk]
        have k5' : (k != 5) = true := by simp [hk]
        cases d2
        all_goals
          go_wp2_with (first | (go_at_call_of 16 (Value.string key); refine (H0.out _).mono ?_; rintro e w' ⟨rfl, rfl⟩) | (go_at_call_of 16 (Value.string name); refine (H1.out _).mono ?_; rintro e w' ⟨rfl, rfl⟩) | (go_at_call_of 16 (Value.string to_); refine (H3.out _).mono ?_; rintro e w' ⟨rfl, rfl⟩) | (go_at_call 18; refine (H2.out _).mono ?_; rintro e w' ⟨rfl, rfl⟩))
          go_meet
          exact ⟨congrArg Value.bool (by rw [HVL.out]; unfold vlB; first | rfl | (rw [if_pos (by omega)]; done) | (rw [if_neg (by omega)]; done) | (rw [if_pos (by omega)]; rfl) | (rw [if_neg (by omega)]; rfl)), rfl⟩
    case rest =>
      obtain ⟨rfl, hwc⟩ := hcut
      rw [hwc]
      clear hwc
      go_upto_region 3 with fail
      go_cut [5] (fun s5 wx => s5 = .bool tl ∧ wx = w1)
      case first =>
        by_cases hk : 7 ≤ k
        · cases b3
          all_goals
            go_wp2_with (first | (go_at_call_of 16 (Value.string key); refine (H0.out _).mono ?_; rintro e w' ⟨rfl, rfl⟩) | (go_at_call_of 16 (Value.string name); refine (H1.out _).mono ?_; rintro e w' ⟨rfl, rfl⟩) | (go_at_call_of 16 (Value.string to_); refine (H3.out _).mono ?_; rintro e w' ⟨rfl, rfl⟩) | (go_at_call 18; refine (H2.out _).mono ?_; rintro e w' ⟨rfl, rfl⟩))
            go_meet
            exact ⟨congrArg Value.bool (by rw [HTL.out]; unfold tlB; first | rfl | (rw [if_pos (by omega)]; done) | (rw [if_neg (by omega)]; done) | (rw [if_pos (by omega)]; rfl) | (rw [if_neg (by omega)]; rfl)), rfl⟩
        · have hk' : k < 7 := by omega
          cases d3
          all_goals
            go_wp2_with (first | (go_at_call_of 16 (Value.string key); refine (H0.out _).mono ?_; rintro e w' ⟨rfl, rfl⟩) | (go_at_call_of 16 (Value.string name); refine (H1.out _).mono ?_; rintro e w' ⟨rfl, rfl⟩) | (go_at_call_of 16 (Value.string to_); refine (H3.out _).mono ?_; rintro e w' ⟨rfl, rfl⟩) | (go_at_call 18; refine (H2.out _).mono ?_; rintro e w' ⟨rfl, rfl⟩))
            go_meet
            exact ⟨congrArg Value.bool (by rw [HTL.out]; unfold tlB; first | rfl | (rw [if_pos (by omega)]; done) | (rw [if_neg (by omega)]; done) | (rw [if_pos (by omega)]; rfl) | (rw [if_neg (by omega)]; rfl)), rfl⟩
      case rest =>
        obtain ⟨rfl, hwc⟩ := hcut
        rw [hwc]
        clear hwc
        by_cases h1 : 1 ≤ k
        · by_cases h8 : k ≤ 8
          · rw [decide_eq_true h1, decide_eq_true h8] at HO
            cases nm <;> cases vl <;> cases tl
            all_goals
              go_wp2_with fail
              go_ret
              exact ⟨ret_bool (by rw [HO.out]; rfl), hx0⟩
          · have h8' : 8 < k := by omega
            rw [decide_eq_true h1, decide_eq_false h8] at HO
            go_wp2_with fail
            go_ret
            exact ⟨ret_bool (by rw [HO.out]; rfl), hx0⟩
        · have h1' : k < 1 := by omega
          rw [decide_eq_false h1] at HO
          go_wp2_with fail
          go_ret
          exact ⟨ret_bool (by rw [HO.out]; rfl), hx0⟩
end Go.Proofs.YtilbofkpjgcchaaDoor
