/- The walks of the small functions: need, Sum, Equal of bytes and of numbers. -/
import Derived.Test.YtdjkfjaffhboeaaBase
import Derived.Test.YtdjkfjaffhboeaaProg
namespace Go.Proofs.Ytdjkfjaffhboeaa
open Go.RowKit

def sumL (n : Int) : List Int → Int
  | [] => n
  | c :: l => sumL ((31 * n + c + 1) % 4294967296) l
theorem sumL_snoc (n : Int) (l : List Int) (c : Int) : sumL n (l ++ [c]) = (31 * sumL n l + c + 1) % 4294967296 := by
  induction l generalizing n with
  | nil => rfl
  | cons x l ih => simp [sumL, ih]
theorem sumL_range (n : Int) (l : List Int) (h0 : 0 ≤ n) (h1 : n < 4294967296) : 0 ≤ sumL n l ∧ sumL n l < 4294967296 := by
  induction l generalizing n with
  | nil => exact ⟨h0, h1⟩
  | cons x l ih => exact ih _ (Int.emod_nonneg _ (by omega)) (Int.emod_lt_of_pos _ (by omega))

set_option maxHeartbeats 400000 in
theorem sum_any (v : Value) (l : List Int) (w : World) (hl : Byt l) (hv : Ints w .u8 v l) :
    Calls Try.prog 19 #[v] w fun e w' => e = .returned (.int .u32 (sumL 1 l)) ∧ w = w' := by
  obtain ⟨a, cap, rfl, hcap, hmax, hc⟩ := hv.open_
  clear hv
  go_enter Try.func19, Try.ntmps19
  go_wp2
  go_loop [3, 5, 8] (fun n _ i => ∃ k : Nat, k ≤ l.length ∧ i = .int .i64 k ∧ n = .int .u32 (sumL 1 (l.take k))) (fun _ _ i => l.length - (intOf i).toNat)
  case atStart => exact ⟨0, Nat.zero_le _, rfl, rfl⟩
  case round =>
    obtain ⟨k, hk, rfl, rfl⟩ := hrel
    by_cases hlt : k < l.length
    · obtain ⟨b, o, rfl, hcell⟩ := hc k hlt
      have hck := hcell k hlt
      have hb := hl.get hlt
      have hs := sumL_range 1 (l.take k) (by omega) (by omega)
      go_wp2
      go_round
      case rel => exact ⟨k + 1, by omega, by go_num, int_congr (by rw [take_snoc l k hlt, sumL_snoc]; omega)⟩
      case measure => simp [intOf]; omega
    · go_wp2
      go_ret
      exact ⟨ret_int (by rw [List.take_of_length_le (by omega)]), rfl⟩

theorem need_ok (c : Int) (w : World) : Calls Try.prog 44 #[.bool true, .int .i64 c] w fun e w' => e = .returned (.tuple #[]) ∧ w = w' := by
  go_enter Try.func44, Try.ntmps44
  go_wp2
  go_end0
  exact ⟨rfl, rfl⟩
theorem need_no (c : Int) (w : World) : Calls Try.prog 44 #[.bool false, .int .i64 c] w fun e w' => e = .panicked [{ v := .iface 31 (.int .i64 c), recovered := false }] ∧ w = w' := by
  go_enter Try.func44, Try.ntmps44
  go_wp2
  exact ⟨rfl, rfl, rfl⟩

set_option maxHeartbeats 400000 in
theorem equalB (v u : Value) (l m : List Int) (w : World) (hv : Ints w .u8 v l) (hu : Ints w .u8 u m) :
    Calls Try.prog 10 #[v, u] w fun e w' => e = .returned (.bool (decide (l = m))) ∧ ∃ n, w' = w.drewN n := by
  obtain ⟨a, cap, rfl, hcap, hmax, hc⟩ := hv.open_
  obtain ⟨a', cap', rfl, hcap', hmax', hc'⟩ := hu.open_
  clear hv hu
  by_cases hlen : l.length = m.length
  · have hne : ((l.length : Int) != (m.length : Int)) = false := by simp [hlen]
    have Hlen := Lib.hid hlen
    clear hlen
    go_enter Try.func10, Try.ntmps10
    go_wp2
    go_loopw [5, 13] (fun _ i wr => ∃ k n : Nat, k ≤ l.length ∧ i = .int .i64 k ∧ wr = w.drewN n ∧ l.take k = m.take k) (fun _ i _ => l.length - (intOf i).toNat)
    case atStart => exact ⟨0, 0, Nat.zero_le _, rfl, rfl, rfl⟩
    case round =>
      obtain ⟨k, n, hk, rfl, rfl, heq⟩ := hrel
      have Heq := Lib.hid heq
      clear heq
      by_cases hlt : k < l.length
      · obtain ⟨b, o, rfl, hcell⟩ := hc k hlt
        have hltm : k < m.length := by have := Hlen.out; omega
        obtain ⟨b', o', rfl, hcell'⟩ := hc' k hltm
        have hck := hcell k hlt
        have hck' := hcell' k hltm
        clear hcell hcell' hc hc'
        by_cases hx : l[k] = m[k]
        · have hxb : (l[k] != m[k]) = false := by simp [hx]
          have Hx := Lib.hid hx
          clear hx
          go_wp2
          go_quiet (fail)
          go_wp2
          go_roundw
          case rel => exact ⟨k + 1, _, by omega, by go_num, rfl, by rw [take_snoc l k hlt, take_snoc m k hltm, Heq.out, Hx.out]⟩
          case measure => simp [intOf]; omega
        · have hxb : (l[k] != m[k]) = true := by simp [hx]
          go_wp2
          go_quiet (fail)
          go_wp2
          go_ret
          exact ⟨ret_bool (by simp; intro h; subst h; exact hx rfl), _, World.drewN_drewN _ _ _⟩
      · go_wp2
        go_ret
        have hkl : k = l.length := by omega
        have hl' := Hlen.out
        exact ⟨ret_bool (by have := Heq.out; rw [List.take_of_length_le (by omega), List.take_of_length_le (by omega)] at this; simp [this]), _, rfl⟩
  · have hne : ((l.length : Int) != (m.length : Int)) = true := by simp; omega
    go_enter Try.func10, Try.ntmps10
    go_wp2
    go_ret
    exact ⟨ret_bool (by simp; intro h; exact hlen (by rw [h])), 0, rfl⟩

set_option maxHeartbeats 400000 in
theorem equalU (v u : Value) (l m : List Int) (w : World) (hv : Ints w .u64 v l) (hu : Ints w .u64 u m) :
    Calls Try.prog 17 #[v, u] w fun e w' => e = .returned (.bool (decide (l = m))) ∧ ∃ n, w' = w.drewN n := by
  obtain ⟨a, cap, rfl, hcap, hmax, hc⟩ := hv.open_
  obtain ⟨a', cap', rfl, hcap', hmax', hc'⟩ := hu.open_
  clear hv hu
  by_cases hlen : l.length = m.length
  · have hne : ((l.length : Int) != (m.length : Int)) = false := by simp [hlen]
    have Hlen := Lib.hid hlen
    clear hlen
    go_enter Try.func17, Try.ntmps17
    go_wp2
    go_loopw [5, 13] (fun _ i wr => ∃ k n : Nat, k ≤ l.length ∧ i = .int .i64 k ∧ wr = w.drewN n ∧ l.take k = m.take k) (fun _ i _ => l.length - (intOf i).toNat)
    case atStart => exact ⟨0, 0, Nat.zero_le _, rfl, rfl, rfl⟩
    case round =>
      obtain ⟨k, n, hk, rfl, rfl, heq⟩ := hrel
      have Heq := Lib.hid heq
      clear heq
      by_cases hlt : k < l.length
      · obtain ⟨b, o, rfl, hcell⟩ := hc k hlt
        have hltm : k < m.length := by have := Hlen.out; omega
        obtain ⟨b', o', rfl, hcell'⟩ := hc' k hltm
        have hck := hcell k hlt
        have hck' := hcell' k hltm
        clear hcell hcell' hc hc'
        by_cases hx : l[k] = m[k]
        · have hxb : (l[k] != m[k]) = false := by simp [hx]
          have Hx := Lib.hid hx
          clear hx
          go_wp2
          go_quiet (fail)
          go_wp2
          go_roundw
          case rel => exact ⟨k + 1, _, by omega, by go_num, rfl, by rw [take_snoc l k hlt, take_snoc m k hltm, Heq.out, Hx.out]⟩
          case measure => simp [intOf]; omega
        · have hxb : (l[k] != m[k]) = true := by simp [hx]
          go_wp2
          go_quiet (fail)
          go_wp2
          go_ret
          exact ⟨ret_bool (by simp; intro h; subst h; exact hx rfl), _, World.drewN_drewN _ _ _⟩
      · go_wp2
        go_ret
        have hkl : k = l.length := by omega
        have hl' := Hlen.out
        exact ⟨ret_bool (by have := Heq.out; rw [List.take_of_length_le (by omega), List.take_of_length_le (by omega)] at this; simp [this]), _, rfl⟩
  · have hne : ((l.length : Int) != (m.length : Int)) = true := by simp; omega
    go_enter Try.func17, Try.ntmps17
    go_wp2
    go_ret
    exact ⟨ret_bool (by simp; intro h; exact hlen (by rw [h])), 0, rfl⟩
theorem equalB_yes (v u : Value) (l m : List Int) (w : World) (hv : Ints w .u8 v l) (hu : Ints w .u8 u m) (h : l = m) :
    Calls Try.prog 10 #[v, u] w fun e w' => e = .returned (.bool true) ∧ ∃ n, w' = w.drewN n :=
  (equalB v u l m w hv hu).mono fun e w' ⟨he, hx⟩ => ⟨by rw [he, decide_eq_true h], hx⟩
theorem equalB_no (v u : Value) (l m : List Int) (w : World) (hv : Ints w .u8 v l) (hu : Ints w .u8 u m) (h : l ≠ m) :
    Calls Try.prog 10 #[v, u] w fun e w' => e = .returned (.bool false) ∧ ∃ n, w' = w.drewN n :=
  (equalB v u l m w hv hu).mono fun e w' ⟨he, hx⟩ => ⟨by rw [he, decide_eq_false h], hx⟩

end Go.Proofs.Ytdjkfjaffhboeaa
