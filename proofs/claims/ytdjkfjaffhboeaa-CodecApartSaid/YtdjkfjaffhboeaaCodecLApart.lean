/- CodecApart: no number's bytes are how another one's begin: the law's walk returns true and changes nothing that was there. -/
import Derived.Test.YtdjkfjaffhboeaaCodecW
namespace Go.Proofs.Ytdjkfjaffhboeaa
open Go.RowKit

theorem num_apart (f : Nat) (a b : Int) (h : num f a = (num f b).take (num f a).length) (hb : 0 ≤ b) : a = b := by
  induction f generalizing a b with
  | zero => simp [num] at h; exact h
  | succ f ih =>
    by_cases ha : a < 128
    · rw [num_small _ a ha] at h
      by_cases hb' : b < 128
      · rw [num_small _ b hb'] at h; simp at h; exact h
      · rw [num_big _ b hb'] at h; simp at h; omega
    · rw [num_big _ a ha] at h
      by_cases hb' : b < 128
      · rw [num_small _ b hb'] at h; simp at h; omega
      · rw [num_big _ b hb'] at h
        simp only [List.length_cons, List.take_succ_cons, List.cons.injEq] at h
        have := ih _ _ h.2 (by omega)
        omega
theorem num_mono (f : Nat) (a b : Int) (h : a ≤ b) : (num f a).length ≤ (num f b).length := by
  induction f generalizing a b with
  | zero => simp [num]
  | succ f ih =>
    by_cases ha : a < 128
    · rw [num_small _ a ha]; exact (num_len _ b).1
    · rw [num_big _ a ha, num_big _ b (by omega)]
      have := ih (a / 128) (b / 128) (by omega)
      simp; omega

theorem equalB_yes (v u : Value) (l m : List Int) (w : World) (hv : Ints w .u8 v l) (hu : Ints w .u8 u m) (h : l = m) :
    Calls Try.prog 10 #[v, u] w fun e w' => e = .returned (.bool true) ∧ ∃ n, w' = w.drewN n :=
  (equalB v u l m w hv hu).mono fun e w' ⟨he, hx⟩ => ⟨by rw [he, decide_eq_true h], hx⟩
theorem equalB_no (v u : Value) (l m : List Int) (w : World) (hv : Ints w .u8 v l) (hu : Ints w .u8 u m) (h : l ≠ m) :
    Calls Try.prog 10 #[v, u] w fun e w' => e = .returned (.bool false) ∧ ∃ n, w' = w.drewN n :=
  (equalB v u l m w hv hu).mono fun e w' ⟨he, hx⟩ => ⟨by rw [he, decide_eq_false h], hx⟩

set_option maxHeartbeats 1000000 in
theorem apart_walk (a b : Int) (w : World) (ha : 0 ≤ a ∧ a < 18446744073709551616) (hb : 0 ≤ b ∧ b < 18446744073709551616) :
    Calls Try.prog 3 #[.int .u64 a, .int .u64 b] w fun e w' => e = .returned (.bool true) ∧ Below w.heap.size w w' := by
  obtain ⟨ha0, ha1⟩ := ha
  obtain ⟨hb0, hb1⟩ := hb
  have hla := num_len 9 a
  have hlb := num_len 9 b
  have ht1 : decide ((1 : Int) ≤ ((num 9 a).length : Int)) = true := by simp; omega
  have ht2 : decide (((num 9 a).length : Int) ≤ 10) = true := by simp; omega
  have hcases : a = b ∨ (a < b ∧ (num 9 a).length ≤ (num 9 b).length) ∨ (b < a ∧ (num 9 a).length ≤ (num 9 b).length) ∨ (b < a ∧ ¬ (num 9 a).length ≤ (num 9 b).length) := by
    rcases Int.lt_trichotomy a b with h | h | h
    · exact .inr (.inl ⟨h, num_mono 9 a b (by omega)⟩)
    · exact .inl h
    · by_cases hl : (num 9 a).length ≤ (num 9 b).length
      · exact .inr (.inr (.inl ⟨h, hl⟩))
      · exact .inr (.inr (.inr ⟨h, hl⟩))
  rcases hcases with h | ⟨h, hl⟩ | ⟨h, hl⟩ | ⟨h, hl⟩
  · subst h
    go_enter Try.func3, Try.ntmps3
    go_wp2_with fail
    refine (wakes_any _).mono ?_
    rintro e w1 ⟨rfl, hx1⟩
    go_wp2_with fail
    refine (number_any a _ (by omega) (by omega)).mono ?_
    rintro e w2 ⟨u, rfl, hu, hx2⟩
    go_wp2_with fail
    refine (number_any a _ (by omega) (by omega)).mono ?_
    rintro e w3 ⟨v, rfl, hv, hx3⟩
    have hu3 := (Own.ints hu).ext hx3
    have hv3 := Own.ints hv
    have hx := (hx1.trans hx2).trans hx3
    clear hu hv hx1 hx2 hx3
    obtain ⟨p, pc, rfl, hp1, hp2, _⟩ := hu3.open_
    obtain ⟨q, qc, rfl, hq1, hq2, _⟩ := hv3.open_
    go_wp2_with fail
    refine (equalB_yes _ _ _ _ _ hu3 hv3 rfl).mono ?_
    rintro e w4 ⟨rfl, n4, rfl⟩
    go_wp2_with fail
    go_ret
    exact ⟨rfl, hx.trans (Ext.drewN _ _)⟩
  · have e1 : (a == b) = false := by simp; omega
    have e2 : decide (b < a) = false := by simp; omega
    have hne : num 9 a ≠ (num 9 b).take (num 9 a).length := fun e => by have := num_apart 9 a b e hb0; omega
    have Hne := Lib.hid hne
    clear hne
    go_enter Try.func3, Try.ntmps3
    go_wp2_with fail
    refine (wakes_any _).mono ?_
    rintro e w1 ⟨rfl, hx1⟩
    go_wp2_with fail
    refine (number_any a _ (by omega) (by omega)).mono ?_
    rintro e w2 ⟨u, rfl, hu, hx2⟩
    go_wp2_with fail
    refine (number_any b _ (by omega) (by omega)).mono ?_
    rintro e w3 ⟨v, rfl, hv, hx3⟩
    have hu3 := (Own.ints hu).ext hx3
    have hv3 := Own.ints hv
    have hx := (hx1.trans hx2).trans hx3
    clear hu hv hx1 hx2 hx3
    obtain ⟨p, pc, rfl, hp1, hp2, _⟩ := hu3.open_
    obtain ⟨q, qc, rfl, hq1, hq2, _⟩ := hv3.open_
    have hc := hv3.cut (num 9 a).length hl
    go_wp2_with fail
    refine (equalB_no _ _ _ _ _ hu3 hc Hne.out).mono ?_
    rintro e w4 ⟨rfl, n4, rfl⟩
    go_wp2_with fail
    go_ret
    exact ⟨rfl, hx.trans (Ext.drewN _ _)⟩
  · have e1 : (a == b) = false := by simp; omega
    have e2 : decide (b < a) = true := by simp; omega
    have hne : num 9 a ≠ (num 9 b).take (num 9 a).length := fun e => by have := num_apart 9 a b e hb0; omega
    have Hne := Lib.hid hne
    clear hne
    go_enter Try.func3, Try.ntmps3
    go_wp2_with fail
    refine (wakes_any _).mono ?_
    rintro e w1 ⟨rfl, hx1⟩
    go_wp2_with fail
    refine (number_any a _ (by omega) (by omega)).mono ?_
    rintro e w2 ⟨u, rfl, hu, hx2⟩
    go_wp2_with fail
    refine (number_any b _ (by omega) (by omega)).mono ?_
    rintro e w3 ⟨v, rfl, hv, hx3⟩
    have hu3 := (Own.ints hu).ext hx3
    have hv3 := Own.ints hv
    have hx := (hx1.trans hx2).trans hx3
    clear hu hv hx1 hx2 hx3
    obtain ⟨p, pc, rfl, hp1, hp2, _⟩ := hu3.open_
    obtain ⟨q, qc, rfl, hq1, hq2, _⟩ := hv3.open_
    have hc := hv3.cut (num 9 a).length hl
    go_wp2_with fail
    refine (equalB_no _ _ _ _ _ hu3 hc Hne.out).mono ?_
    rintro e w4 ⟨rfl, n4, rfl⟩
    go_wp2_with fail
    go_ret
    exact ⟨rfl, hx.trans (Ext.drewN _ _)⟩
  · have e1 : (a == b) = false := by simp; omega
    have e2 : decide (b < a) = true := by simp; omega
    go_enter Try.func3, Try.ntmps3
    go_wp2_with fail
    refine (wakes_any _).mono ?_
    rintro e w1 ⟨rfl, hx1⟩
    go_wp2_with fail
    refine (number_any a _ (by omega) (by omega)).mono ?_
    rintro e w2 ⟨u, rfl, hu, hx2⟩
    go_wp2_with fail
    refine (number_any b _ (by omega) (by omega)).mono ?_
    rintro e w3 ⟨v, rfl, hv, hx3⟩
    have hu3 := (Own.ints hu).ext hx3
    have hv3 := Own.ints hv
    have hx := (hx1.trans hx2).trans hx3
    clear hu hv hx1 hx2 hx3
    obtain ⟨p, pc, rfl, hp1, hp2, _⟩ := hu3.open_
    obtain ⟨q, qc, rfl, hq1, hq2, _⟩ := hv3.open_
    go_wp2_with fail
    go_ret
    exact ⟨rfl, hx⟩
end Go.Proofs.Ytdjkfjaffhboeaa
