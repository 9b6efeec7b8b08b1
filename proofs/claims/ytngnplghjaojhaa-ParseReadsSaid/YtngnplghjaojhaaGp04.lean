/- Letters, blanks; how many a text begins with. -/
import Derived.Test.YtngnplghjaojhaaGp03
import Derived.Test.YtngnplghjaojhaaProg
import Derived.Laws.RangeAny
import Derived.Test.YtngnplghjaojhaaShelf
import Derived.Test.YtngnplghjaojhaaGp00
import Derived.Test.YtngnplghjaojhaaGp01
namespace Go.Proofs.Ytngnplghjaojhaa
set_option maxRecDepth 100000
set_option maxHeartbeats 2000000
set_option linter.unusedVariables false
set_option linter.unusedSimpArgs false
open Go.RowKit

theorem high_letter (c : Int) (h : 128 ≤ c) : letterC c = false := by unfold letterC; exact decide_eq_false (by omega)
theorem high_quoted (c : Int) (h : 128 ≤ c) : quotedC c = false := by unfold quotedC; exact decide_eq_false (by omega)
theorem high_blank (c : Int) (h : 128 ≤ c) : blankC c = false := by unfold blankC; exact decide_eq_false (by omega)
theorem letter_any (c : Int) (w : World) : Calls Try.prog 107 #[.int .i32 c] w fun e w' => e = .returned (.bool (letterC c)) ∧ w = w' := by
  go_enter Try.func107, Try.ntmps107
  go_wp2
  all_goals (go_ret; exact ⟨ret_bool (by unfold letterC; rw [Bool.eq_iff_iff]; simp; try omega), rfl⟩)
theorem quoted_any (c : Int) (w : World) : Calls Try.prog 93 #[.int .i32 c] w fun e w' => e = .returned (.bool (quotedC c)) ∧ w = w' := by
  go_enter Try.func93, Try.ntmps93
  go_wp2
  all_goals (go_ret; exact ⟨ret_bool (by unfold quotedC; rw [Bool.eq_iff_iff]; simp; try omega), rfl⟩)
theorem blank_any (c : Int) (w : World) : Calls Try.prog 62 #[.int .i32 c] w fun e w' => e = .returned (.bool (blankC c)) ∧ w = w' := by
  go_enter Try.func62, Try.ntmps62
  go_wp2
  all_goals (go_ret; exact ⟨ret_bool (by unfold blankC; rw [Bool.eq_iff_iff]; simp; try omega), rfl⟩)

theorem span_letter_any (s : ByteArray) (w : World) (hs : s.size ≤ 9223372036854775807) :
    Calls Try.prog 61 #[.string s, .func (.func 107) #[] #[]] w fun e w' => e = .returned (.int .i64 (spanL letterC (bts s))) ∧ Ext w w' := by
  go_enter Try.func61, Try.ntmps61
  go_wp2_with fail
  go_loopw [4] (fun _ wr => ∃ k : Nat, k ≤ s.size ∧ wr = w.iter s k ∧ spanL letterC (bts s) = k + spanL letterC ((bts s).drop k)) (fun _ wr => s.size - wr.iterPos w.heap.size)
  case atStart => exact ⟨0, Nat.zero_le _, rfl, by simp⟩
  case round =>
    obtain ⟨k, hk, rfl, hsp⟩ := hrel
    have Hsp := Lib.hid hsp
    clear hsp
    by_cases hlt : k < s.size
    · by_cases ha : s[k].toNat < 128
      · have hnx := fun ty => run_next_ascii (P := Try.prog) w s k ty hlt ha
        cases hp : letterC (s[k].toNat : Int) with
        | true =>
          have Hd := Lib.hid (spanL_drop_yes (p := letterC) hlt hp)
          go_wp2_with (go_at_call 107; refine (letter_any _ _).mono ?_; rintro e w' ⟨rfl, rfl⟩)
          go_roundw
          case rel => exact ⟨k + 1, by omega, rfl, by rw [Hsp.out, Hd.out]; omega⟩
          case measure => simp; omega
        | false =>
          have Hd := Lib.hid (spanL_drop_no (p := letterC) hlt hp)
          go_wp2_with (go_at_call 107; refine (letter_any _ _).mono ?_; rintro e w' ⟨rfl, rfl⟩)
          go_ret
          exact ⟨ret_int (by rw [Hsp.out, Hd.out]; omega), Ext.alloc _ _⟩
      · have hnx := fun ty => run_next_any (P := Try.prog) w s k ty hlt
        have hp : letterC (s[k].toNat : Int) = false := high_letter _ (by omega)
        have Hd := Lib.hid (spanL_drop_no (p := letterC) hlt hp)
        have hp2 : letterC ((Utf8.decode s k).1 : Int) = false := high_letter _ (by have := (decode_high s k hlt (by omega)).1; omega)
        generalize Utf8.decode s k = dk at hnx hp2
        clear hp
        go_wp2_with (go_at_call 107; refine (letter_any _ _).mono ?_; rintro e w' ⟨rfl, rfl⟩)
        go_ret
        exact ⟨ret_int (by rw [Hsp.out, Hd.out]; omega), Ext.alloc _ _⟩
    · have hnx := fun ty => run_next_end (P := Try.prog) w s k ty hlt
      have Hd : Hid (spanL letterC ((bts s).drop k) = 0) := Lib.hid (by rw [List.drop_eq_nil_of_le (by rw [bts_len]; omega)]; rfl)
      obtain rfl : s.size = k := by omega
      go_wp2_with fail
      go_ret
      exact ⟨ret_int (by rw [Hsp.out, Hd.out]; omega), Ext.alloc _ _⟩
theorem span_quoted_any (s : ByteArray) (w : World) (hs : s.size ≤ 9223372036854775807) :
    Calls Try.prog 61 #[.string s, .func (.func 93) #[] #[]] w fun e w' => e = .returned (.int .i64 (spanL quotedC (bts s))) ∧ Ext w w' := by
  go_enter Try.func61, Try.ntmps61
  go_wp2_with fail
  go_loopw [4] (fun _ wr => ∃ k : Nat, k ≤ s.size ∧ wr = w.iter s k ∧ spanL quotedC (bts s) = k + spanL quotedC ((bts s).drop k)) (fun _ wr => s.size - wr.iterPos w.heap.size)
  case atStart => exact ⟨0, Nat.zero_le _, rfl, by simp⟩
  case round =>
    obtain ⟨k, hk, rfl, hsp⟩ := hrel
    have Hsp := Lib.hid hsp
    clear hsp
    by_cases hlt : k < s.size
    · by_cases ha : s[k].toNat < 128
      · have hnx := fun ty => run_next_ascii (P := Try.prog) w s k ty hlt ha
        cases hp : quotedC (s[k].toNat : Int) with
        | true =>
          have Hd := Lib.hid (spanL_drop_yes (p := quotedC) hlt hp)
          go_wp2_with (go_at_call 93; refine (quoted_any _ _).mono ?_; rintro e w' ⟨rfl, rfl⟩)
          go_roundw
          case rel => exact ⟨k + 1, by omega, rfl, by rw [Hsp.out, Hd.out]; omega⟩
          case measure => simp; omega
        | false =>
          have Hd := Lib.hid (spanL_drop_no (p := quotedC) hlt hp)
          go_wp2_with (go_at_call 93; refine (quoted_any _ _).mono ?_; rintro e w' ⟨rfl, rfl⟩)
          go_ret
          exact ⟨ret_int (by rw [Hsp.out, Hd.out]; omega), Ext.alloc _ _⟩
      · have hnx := fun ty => run_next_any (P := Try.prog) w s k ty hlt
        have hp : quotedC (s[k].toNat : Int) = false := high_quoted _ (by omega)
        have Hd := Lib.hid (spanL_drop_no (p := quotedC) hlt hp)
        have hp2 : quotedC ((Utf8.decode s k).1 : Int) = false := high_quoted _ (by have := (decode_high s k hlt (by omega)).1; omega)
        generalize Utf8.decode s k = dk at hnx hp2
        clear hp
        go_wp2_with (go_at_call 93; refine (quoted_any _ _).mono ?_; rintro e w' ⟨rfl, rfl⟩)
        go_ret
        exact ⟨ret_int (by rw [Hsp.out, Hd.out]; omega), Ext.alloc _ _⟩
    · have hnx := fun ty => run_next_end (P := Try.prog) w s k ty hlt
      have Hd : Hid (spanL quotedC ((bts s).drop k) = 0) := Lib.hid (by rw [List.drop_eq_nil_of_le (by rw [bts_len]; omega)]; rfl)
      obtain rfl : s.size = k := by omega
      go_wp2_with fail
      go_ret
      exact ⟨ret_int (by rw [Hsp.out, Hd.out]; omega), Ext.alloc _ _⟩
theorem span_blank_any (s : ByteArray) (w : World) (hs : s.size ≤ 9223372036854775807) :
    Calls Try.prog 61 #[.string s, .func (.func 62) #[] #[]] w fun e w' => e = .returned (.int .i64 (spanL blankC (bts s))) ∧ Ext w w' := by
  go_enter Try.func61, Try.ntmps61
  go_wp2_with fail
  go_loopw [4] (fun _ wr => ∃ k : Nat, k ≤ s.size ∧ wr = w.iter s k ∧ spanL blankC (bts s) = k + spanL blankC ((bts s).drop k)) (fun _ wr => s.size - wr.iterPos w.heap.size)
  case atStart => exact ⟨0, Nat.zero_le _, rfl, by simp⟩
  case round =>
    obtain ⟨k, hk, rfl, hsp⟩ := hrel
    have Hsp := Lib.hid hsp
    clear hsp
    by_cases hlt : k < s.size
    · by_cases ha : s[k].toNat < 128
      · have hnx := fun ty => run_next_ascii (P := Try.prog) w s k ty hlt ha
        cases hp : blankC (s[k].toNat : Int) with
        | true =>
          have Hd := Lib.hid (spanL_drop_yes (p := blankC) hlt hp)
          go_wp2_with (go_at_call 62; refine (blank_any _ _).mono ?_; rintro e w' ⟨rfl, rfl⟩)
          go_roundw
          case rel => exact ⟨k + 1, by omega, rfl, by rw [Hsp.out, Hd.out]; omega⟩
          case measure => simp; omega
        | false =>
          have Hd := Lib.hid (spanL_drop_no (p := blankC) hlt hp)
          go_wp2_with (go_at_call 62; refine (blank_any _ _).mono ?_; rintro e w' ⟨rfl, rfl⟩)
          go_ret
          exact ⟨ret_int (by rw [Hsp.out, Hd.out]; omega), Ext.alloc _ _⟩
      · have hnx := fun ty => run_next_any (P := Try.prog) w s k ty hlt
        have hp : blankC (s[k].toNat : Int) = false := high_blank _ (by omega)
        have Hd := Lib.hid (spanL_drop_no (p := blankC) hlt hp)
        have hp2 : blankC ((Utf8.decode s k).1 : Int) = false := high_blank _ (by have := (decode_high s k hlt (by omega)).1; omega)
        generalize Utf8.decode s k = dk at hnx hp2
        clear hp
        go_wp2_with (go_at_call 62; refine (blank_any _ _).mono ?_; rintro e w' ⟨rfl, rfl⟩)
        go_ret
        exact ⟨ret_int (by rw [Hsp.out, Hd.out]; omega), Ext.alloc _ _⟩
    · have hnx := fun ty => run_next_end (P := Try.prog) w s k ty hlt
      have Hd : Hid (spanL blankC ((bts s).drop k) = 0) := Lib.hid (by rw [List.drop_eq_nil_of_le (by rw [bts_len]; omega)]; rfl)
      obtain rfl : s.size = k := by omega
      go_wp2_with fail
      go_ret
      exact ⟨ret_int (by rw [Hsp.out, Hd.out]; omega), Ext.alloc _ _⟩
end Go.Proofs.Ytngnplghjaojhaa

/- Words; what a text begins with: the first three asked. -/
namespace Go.Proofs.Ytngnplghjaojhaa
set_option maxRecDepth 100000
set_option maxHeartbeats 2000000
set_option linter.unusedVariables false
set_option linter.unusedSimpArgs false
open Go.RowKit

theorem word_any (s : ByteArray) (w : World) (hs : s.size ≤ 9223372036854775807) :
    Calls Try.prog 89 #[.string s] w fun e w' => e = .returned (.int .i64 (wordN (bts s))) ∧ Ext w w' := by
  have hl := spanL_le letterC (bts s)
  rw [bts_len] at hl
  by_cases h : 32 < spanL letterC (bts s)
  · have hd : decide (((spanL letterC (bts s) : Nat) : Int) > 32) = true := by simp; omega
    go_enter Try.func89, Try.ntmps89
    go_wp2_with fail
    refine (span_letter_any s _ hs).mono ?_
    rintro e w' ⟨rfl, hx⟩
    go_wp2_with fail
    go_ret
    exact ⟨ret_int (by unfold wordN; rw [if_pos h]; rfl), hx⟩
  · go_enter Try.func89, Try.ntmps89
    go_wp2_with fail
    refine (span_letter_any s _ hs).mono ?_
    rintro e w' ⟨rfl, hx⟩
    go_wp2_with fail
    go_ret
    exact ⟨ret_int (by unfold wordN; rw [if_neg h]), hx⟩

/-- A text without its first byte, if it is that. -/
theorem hasPre (l : List UInt8) (c : UInt8) : Lib.hasPrefix l [c] = decide (l.head? = some c) := by
  cases l with
  | nil => rfl
  | cons x l => simp only [Lib.hasPrefix, List.isPrefixOf, Bool.and_true, List.head?_cons, Option.some.injEq]; rw [Bool.eq_iff_iff, beq_iff_eq, decide_eq_true_iff]; exact eq_comm
theorem cut1_yes (s p r : ByteArray) (w : World) (c : UInt8) (hp : p = ⟨#[c]⟩) (h : bts s = c :: bts r) :
    Calls Try.prog 91 #[.string s, .string p] w fun e w' => e = .returned (.tuple #[.string r, .bool true]) ∧ w = w' := by
  subst hp
  refine (Try.strings_CutPrefix s ⟨#[c]⟩ w).mono fun e w' ⟨he, hw⟩ => ⟨?_, hw.symm⟩
  rw [he]
  have h' : s.data.toList = c :: bts r := h
  have e1 : Lib.hasPrefix s.data.toList [c] = true := by rw [h', hasPre]; simp
  have e2 : Lib.trimPrefix s.data.toList [c] = bts r := by rw [h']; simp [Lib.trimPrefix, hasPre]
  show Ending.returned (.tuple #[.string (txt (Lib.trimPrefix s.data.toList [c])), .bool (Lib.hasPrefix s.data.toList [c])]) = _
  rw [e1, e2, txt_bts]
theorem cut1_no (s p : ByteArray) (w : World) (c : UInt8) (hp : p = ⟨#[c]⟩) (h : (bts s).head? ≠ some c) :
    Calls Try.prog 91 #[.string s, .string p] w fun e w' => e = .returned (.tuple #[.string s, .bool false]) ∧ w = w' := by
  subst hp
  refine (Try.strings_CutPrefix s ⟨#[c]⟩ w).mono fun e w' ⟨he, hw⟩ => ⟨?_, hw.symm⟩
  rw [he]
  have e1 : Lib.hasPrefix s.data.toList [c] = false := by rw [hasPre]; exact decide_eq_false h
  have e2 : Lib.trimPrefix s.data.toList [c] = bts s := by unfold Lib.trimPrefix; rw [e1]; rfl
  show Ending.returned (.tuple #[.string (txt (Lib.trimPrefix s.data.toList [c])), .bool (Lib.hasPrefix s.data.toList [c])]) = _
  rw [e1, e2, txt_bts]
theorem starts_any (s p : ByteArray) (w : World) :
    Calls Try.prog 94 #[.string s, .string p] w fun e w' => e = .returned (.bool ((bts p).isPrefixOf (bts s))) ∧ w = w' :=
  (Try.strings_HasPrefix s p w).mono fun e w' ⟨he, hw⟩ => ⟨he, hw.symm⟩

/-- A token. -/
def tokV (k : Int) (l : List UInt8) (at_ : Int) : Value := .agg #[.int .i64 k, .string (txt l), .int .i64 at_]
def begV (b : Beg) : Value := .tuple #[tokV b.1 b.2.1 0, .int .i64 b.2.2]

theorem ask1_any (s : ByteArray) (b : Nat) (w : World) (hs : s.size ≤ 9223372036854775807) (hb : w.cell? ⟨b, 0, none⟩ = some (.string s)) :
    Calls Try.prog 88 #[.pointer (some ⟨b, 0, none⟩)] w fun e w' => e = .returned (begV (ask1 (bts s))) ∧ Ext w w' := by
  have hn := wordN_le (bts s)
  rw [bts_len] at hn
  have hr := RowAt.new w 39 [.int .i64 0, .string ⟨#[]⟩, .int .i64 0]
  have hb1 := ext_cell (Ext.alloc w (.cells #[.int .i64 0, .string ⟨#[]⟩, .int .i64 0] 39)) hb
  go_enter Try.func88, Try.ntmps88
  go_upto_region 1 with fail
  have hx0 := Ext.alloc w (.cells #[.int .i64 0, .string ⟨#[]⟩, .int .i64 0] 39)
  generalize w.alloc (.cells #[.int .i64 0, .string ⟨#[]⟩, .int .i64 0] 39) = w1 at *
  go_wp2_with fail
  refine (word_any s _ hs).mono ?_
  rintro e w2 ⟨rfl, hx⟩
  have hb2 := ext_cell hx hb1
  obtain ⟨c0, c1, c2, f0, f1, f2⟩ := (hr.ext hx).facts3
  clear hr
  go_wp2_with fail
  exact bodyPost_ret (v := begV (ask1 (bts s))) (by simp [results, Try.results88, go_sem, c0, c1, c2, begV, tokV, ask1, extract_txt]) rfl ⟨rfl, (by repeat (first | exact Ext.refl _ | with_reducible assumption | with_reducible refine Ext.alloc_of ?_ _ | with_reducible refine Ext.drewN_of ?_ _ | with_reducible refine Ext.drew_of ?_ | (with_reducible refine Ext.set_of ?_ ?hsz _; case hsz => ((first | exact Nat.le_refl _ | omega | (simp; omega)))) | with_reducible refine Ext.via (by assumption) ?_))⟩

theorem ask2_no (s : ByteArray) (b : Nat) (w : World) (hs : s.size ≤ 9223372036854775807) (hb : w.cell? ⟨b, 0, none⟩ = some (.string s)) (h : (bts s).head? ≠ some 64) :
    Calls Try.prog 90 #[.pointer (some ⟨b, 0, none⟩)] w fun e w' => e = .returned (begV begNo) ∧ Ext w w' := by
  have hr := RowAt.new w 39 [.int .i64 0, .string ⟨#[]⟩, .int .i64 0]
  have hb1 := ext_cell (Ext.alloc w (.cells #[.int .i64 0, .string ⟨#[]⟩, .int .i64 0] 39)) hb
  go_enter Try.func90, Try.ntmps90
  go_upto_region 1 with fail
  have hx0 := Ext.alloc w (.cells #[.int .i64 0, .string ⟨#[]⟩, .int .i64 0] 39)
  generalize w.alloc (.cells #[.int .i64 0, .string ⟨#[]⟩, .int .i64 0] 39) = w1 at *
  go_wp2_with fail
  refine (cut1_no s _ _ 64 rfl h).mono ?_
  rintro e w' ⟨rfl, rfl⟩
  go_wp2_with fail
  refine (word_any s _ hs).mono ?_
  rintro e w2 ⟨rfl, hx⟩
  obtain ⟨c0, c1, c2, f0, f1, f2⟩ := (hr.ext hx).facts3
  clear hr
  go_wp2_with fail
  exact bodyPost_ret (v := begV begNo) (by simp [results, Try.results90, go_sem, c0, c1, c2, begV, tokV, begNo, txt]) rfl ⟨rfl, (by repeat (first | exact Ext.refl _ | with_reducible assumption | with_reducible refine Ext.alloc_of ?_ _ | with_reducible refine Ext.drewN_of ?_ _ | with_reducible refine Ext.drew_of ?_ | (with_reducible refine Ext.set_of ?_ ?hsz _; case hsz => ((first | exact Nat.le_refl _ | omega | (simp; omega)))) | with_reducible refine Ext.via (by assumption) ?_))⟩
theorem ask2_nil {r : ByteArray} (hd : ((wordN (bts r) : Nat) : Int) == 0) (s : ByteArray) (b : Nat) (w : World) (hs : s.size ≤ 9223372036854775807) (hb : w.cell? ⟨b, 0, none⟩ = some (.string s)) (h : bts s = 64 :: bts r) :
    Calls Try.prog 90 #[.pointer (some ⟨b, 0, none⟩)] w fun e w' => e = .returned (begV begNo) ∧ Ext w w' := by
  have hr := RowAt.new w 39 [.int .i64 0, .string ⟨#[]⟩, .int .i64 0]
  have hb1 := ext_cell (Ext.alloc w (.cells #[.int .i64 0, .string ⟨#[]⟩, .int .i64 0] 39)) hb
  go_enter Try.func90, Try.ntmps90
  go_upto_region 1 with fail
  have hx0 := Ext.alloc w (.cells #[.int .i64 0, .string ⟨#[]⟩, .int .i64 0] 39)
  generalize w.alloc (.cells #[.int .i64 0, .string ⟨#[]⟩, .int .i64 0] 39) = w1 at *
  go_wp2_with fail
  have hrs : r.size ≤ 9223372036854775807 := by have := congrArg List.length h; simp only [List.length_cons, bts_len] at this; omega
  refine (cut1_yes s _ r _ 64 rfl h).mono ?_
  rintro e w' ⟨rfl, rfl⟩
  go_wp2_with fail
  refine (word_any r _ hrs).mono ?_
  rintro e w2 ⟨rfl, hx⟩
  obtain ⟨c0, c1, c2, f0, f1, f2⟩ := (hr.ext hx).facts3
  clear hr
  go_wp2_with fail
  exact bodyPost_ret (v := begV begNo) (by simp [results, Try.results90, go_sem, c0, c1, c2, begV, tokV, begNo, txt]) rfl ⟨rfl, (by repeat (first | exact Ext.refl _ | with_reducible assumption | with_reducible refine Ext.alloc_of ?_ _ | with_reducible refine Ext.drewN_of ?_ _ | with_reducible refine Ext.drew_of ?_ | (with_reducible refine Ext.set_of ?_ ?hsz _; case hsz => ((first | exact Nat.le_refl _ | omega | (simp; omega)))) | with_reducible refine Ext.via (by assumption) ?_))⟩
theorem ask2_yes {r : ByteArray} (hd : (((wordN (bts r) : Nat) : Int) == 0) = false) (s : ByteArray) (b : Nat) (w : World) (hs : s.size ≤ 9223372036854775807) (hb : w.cell? ⟨b, 0, none⟩ = some (.string s)) (h : bts s = 64 :: bts r) :
    Calls Try.prog 90 #[.pointer (some ⟨b, 0, none⟩)] w fun e w' => e = .returned (begV (2, (bts r).take (wordN (bts r)), wordN (bts r) + 1)) ∧ Ext w w' := by
  have hr := RowAt.new w 39 [.int .i64 0, .string ⟨#[]⟩, .int .i64 0]
  have hb1 := ext_cell (Ext.alloc w (.cells #[.int .i64 0, .string ⟨#[]⟩, .int .i64 0] 39)) hb
  go_enter Try.func90, Try.ntmps90
  go_upto_region 1 with fail
  have hx0 := Ext.alloc w (.cells #[.int .i64 0, .string ⟨#[]⟩, .int .i64 0] 39)
  generalize w.alloc (.cells #[.int .i64 0, .string ⟨#[]⟩, .int .i64 0] 39) = w1 at *
  go_wp2_with fail
  have hrs : r.size ≤ 9223372036854775807 := by have := congrArg List.length h; simp only [List.length_cons, bts_len] at this; omega
  have hn := wordN_le (bts r)
  rw [bts_len] at hn
  have hn32 : wordN (bts r) ≤ 32 := by unfold wordN; split <;> omega
  refine (cut1_yes s _ r _ 64 rfl h).mono ?_
  rintro e w' ⟨rfl, rfl⟩
  go_wp2_with fail
  refine (word_any r _ hrs).mono ?_
  rintro e w2 ⟨rfl, hx⟩
  obtain ⟨c0, c1, c2, f0, f1, f2⟩ := (hr.ext hx).facts3
  clear hr
  go_wp2_with fail
  exact bodyPost_ret (v := begV (2, (bts r).take (wordN (bts r)), wordN (bts r) + 1)) (by simp [results, Try.results90, go_sem, c0, c1, c2, begV, tokV, extract_txt]) rfl ⟨rfl, (by repeat (first | exact Ext.refl _ | with_reducible assumption | with_reducible refine Ext.alloc_of ?_ _ | with_reducible refine Ext.drewN_of ?_ _ | with_reducible refine Ext.drew_of ?_ | (with_reducible refine Ext.set_of ?_ ?hsz _; case hsz => ((first | exact Nat.le_refl _ | omega | (simp; omega)))) | with_reducible refine Ext.via (by assumption) ?_))⟩
theorem ask2_any (s : ByteArray) (b : Nat) (w : World) (hs : s.size ≤ 9223372036854775807) (hb : w.cell? ⟨b, 0, none⟩ = some (.string s)) :
    Calls Try.prog 90 #[.pointer (some ⟨b, 0, none⟩)] w fun e w' => e = .returned (begV (ask2 (bts s))) ∧ Ext w w' := by
  cases hl : bts s with
  | nil => exact ask2_no s b w hs hb (by rw [hl]; simp)
  | cons c r =>
    by_cases hc : c = 64
    · subst hc
      have h : bts s = 64 :: bts (txt r) := by rw [hl, bts_txt]
      by_cases hn : wordN r = 0
      · have := ask2_nil (r := txt r) (by rw [bts_txt, hn]; rfl) s b w hs hb h
        simpa [ask2, hn] using this
      · have := ask2_yes (r := txt r) (by rw [bts_txt]; simp; omega) s b w hs hb h
        rw [bts_txt] at this
        simpa [ask2, hn] using this
    · have := ask2_no s b w hs hb (by rw [hl]; simpa using hc)
      simpa [ask2, hc] using this

theorem starts_eq (s p : ByteArray) (w : World) {r : Bool} (h : (bts p).isPrefixOf (bts s) = r) :
    Calls Try.prog 94 #[.string s, .string p] w fun e w' => e = .returned (.bool r) ∧ w = w' := h ▸ starts_any s p w
theorem ask3_no (s : ByteArray) (b : Nat) (w : World) (hs : s.size ≤ 9223372036854775807) (hb : w.cell? ⟨b, 0, none⟩ = some (.string s)) (h : (bts s).head? ≠ some 34) :
    Calls Try.prog 92 #[.pointer (some ⟨b, 0, none⟩)] w fun e w' => e = .returned (begV begNo) ∧ Ext w w' := by
  have hr := RowAt.new w 39 [.int .i64 0, .string ⟨#[]⟩, .int .i64 0]
  have hb1 := ext_cell (Ext.alloc w (.cells #[.int .i64 0, .string ⟨#[]⟩, .int .i64 0] 39)) hb
  go_enter Try.func92, Try.ntmps92
  go_upto_region 1 with fail
  have hx0 := Ext.alloc w (.cells #[.int .i64 0, .string ⟨#[]⟩, .int .i64 0] 39)
  generalize w.alloc (.cells #[.int .i64 0, .string ⟨#[]⟩, .int .i64 0] 39) = w1 at *
  go_wp2_with fail
  refine (cut1_no s _ _ 34 rfl h).mono ?_
  rintro e w' ⟨rfl, rfl⟩
  go_wp2_with fail
  refine (span_quoted_any s _ hs).mono ?_
  rintro e w2 ⟨rfl, hx⟩
  obtain ⟨c0, c1, c2, f0, f1, f2⟩ := (hr.ext hx).facts3
  clear hr
  go_wp2_with fail
  exact bodyPost_ret (v := begV begNo) (by simp [results, Try.results92, go_sem, c0, c1, c2, begV, tokV, begNo, txt]) rfl ⟨rfl, (by repeat (first | exact Ext.refl _ | with_reducible assumption | with_reducible refine Ext.alloc_of ?_ _ | with_reducible refine Ext.drewN_of ?_ _ | with_reducible refine Ext.drew_of ?_ | (with_reducible refine Ext.set_of ?_ ?hsz _; case hsz => ((first | exact Nat.le_refl _ | omega | (simp; omega)))) | with_reducible refine Ext.via (by assumption) ?_))⟩
theorem ask3_long {r : ByteArray} (hd : 40 < spanL quotedC (bts r)) (s : ByteArray) (b : Nat) (w : World) (hs : s.size ≤ 9223372036854775807) (hb : w.cell? ⟨b, 0, none⟩ = some (.string s)) (h : bts s = 34 :: bts r) :
    Calls Try.prog 92 #[.pointer (some ⟨b, 0, none⟩)] w fun e w' => e = .returned (begV begNo) ∧ Ext w w' := by
  have hr := RowAt.new w 39 [.int .i64 0, .string ⟨#[]⟩, .int .i64 0]
  have hb1 := ext_cell (Ext.alloc w (.cells #[.int .i64 0, .string ⟨#[]⟩, .int .i64 0] 39)) hb
  go_enter Try.func92, Try.ntmps92
  go_upto_region 1 with fail
  have hx0 := Ext.alloc w (.cells #[.int .i64 0, .string ⟨#[]⟩, .int .i64 0] 39)
  generalize w.alloc (.cells #[.int .i64 0, .string ⟨#[]⟩, .int .i64 0] 39) = w1 at *
  go_wp2_with fail
  have hrs : r.size ≤ 9223372036854775807 := by have := congrArg List.length h; simp only [List.length_cons, bts_len] at this; omega
  refine (cut1_yes s _ r _ 34 rfl h).mono ?_
  rintro e w' ⟨rfl, rfl⟩
  go_wp2_with fail
  refine (span_quoted_any r _ hrs).mono ?_
  rintro e w2 ⟨rfl, hx⟩
  obtain ⟨c0, c1, c2, f0, f1, f2⟩ := (hr.ext hx).facts3
  clear hr
  go_wp2_with fail
  exact bodyPost_ret (v := begV begNo) (by simp [results, Try.results92, go_sem, c0, c1, c2, begV, tokV, begNo, txt]) rfl ⟨rfl, (by repeat (first | exact Ext.refl _ | with_reducible assumption | with_reducible refine Ext.alloc_of ?_ _ | with_reducible refine Ext.drewN_of ?_ _ | with_reducible refine Ext.drew_of ?_ | (with_reducible refine Ext.set_of ?_ ?hsz _; case hsz => ((first | exact Nat.le_refl _ | omega | (simp; omega)))) | with_reducible refine Ext.via (by assumption) ?_))⟩
theorem ask3_open {r : ByteArray} (hd : spanL quotedC (bts r) ≤ 40) (hq : (bts ⟨#[34]⟩).isPrefixOf (bts (r.extract (spanL quotedC (bts r)) r.size)) = false) (s : ByteArray) (b : Nat) (w : World) (hs : s.size ≤ 9223372036854775807) (hb : w.cell? ⟨b, 0, none⟩ = some (.string s)) (h : bts s = 34 :: bts r) :
    Calls Try.prog 92 #[.pointer (some ⟨b, 0, none⟩)] w fun e w' => e = .returned (begV begNo) ∧ Ext w w' := by
  have hr := RowAt.new w 39 [.int .i64 0, .string ⟨#[]⟩, .int .i64 0]
  have hb1 := ext_cell (Ext.alloc w (.cells #[.int .i64 0, .string ⟨#[]⟩, .int .i64 0] 39)) hb
  go_enter Try.func92, Try.ntmps92
  go_upto_region 1 with fail
  have hx0 := Ext.alloc w (.cells #[.int .i64 0, .string ⟨#[]⟩, .int .i64 0] 39)
  generalize w.alloc (.cells #[.int .i64 0, .string ⟨#[]⟩, .int .i64 0] 39) = w1 at *
  go_wp2_with fail
  have hrs : r.size ≤ 9223372036854775807 := by have := congrArg List.length h; simp only [List.length_cons, bts_len] at this; omega
  have hn := spanL_le quotedC (bts r)
  rw [bts_len] at hn
  refine (cut1_yes s _ r _ 34 rfl h).mono ?_
  rintro e w' ⟨rfl, rfl⟩
  go_wp2_with fail
  refine (span_quoted_any r _ hrs).mono ?_
  rintro e w2 ⟨rfl, hx⟩
  obtain ⟨c0, c1, c2, f0, f1, f2⟩ := (hr.ext hx).facts3
  clear hr
  go_wp2_with fail
  refine (starts_eq _ _ _ hq).mono ?_
  rintro e w' ⟨rfl, rfl⟩
  go_wp2_with fail
  exact bodyPost_ret (v := begV begNo) (by simp [results, Try.results92, go_sem, c0, c1, c2, begV, tokV, begNo, txt]) rfl ⟨rfl, (by repeat (first | exact Ext.refl _ | with_reducible assumption | with_reducible refine Ext.alloc_of ?_ _ | with_reducible refine Ext.drewN_of ?_ _ | with_reducible refine Ext.drew_of ?_ | (with_reducible refine Ext.set_of ?_ ?hsz _; case hsz => ((first | exact Nat.le_refl _ | omega | (simp; omega)))) | with_reducible refine Ext.via (by assumption) ?_))⟩
theorem ask3_yes {r : ByteArray} (hd : spanL quotedC (bts r) ≤ 40) (hq : (bts ⟨#[34]⟩).isPrefixOf (bts (r.extract (spanL quotedC (bts r)) r.size)) = true) (s : ByteArray) (b : Nat) (w : World) (hs : s.size ≤ 9223372036854775807) (hb : w.cell? ⟨b, 0, none⟩ = some (.string s)) (h : bts s = 34 :: bts r) :
    Calls Try.prog 92 #[.pointer (some ⟨b, 0, none⟩)] w fun e w' => e = .returned (begV (3, (bts r).take (spanL quotedC (bts r)), spanL quotedC (bts r) + 2)) ∧ Ext w w' := by
  have hr := RowAt.new w 39 [.int .i64 0, .string ⟨#[]⟩, .int .i64 0]
  have hb1 := ext_cell (Ext.alloc w (.cells #[.int .i64 0, .string ⟨#[]⟩, .int .i64 0] 39)) hb
  go_enter Try.func92, Try.ntmps92
  go_upto_region 1 with fail
  have hx0 := Ext.alloc w (.cells #[.int .i64 0, .string ⟨#[]⟩, .int .i64 0] 39)
  generalize w.alloc (.cells #[.int .i64 0, .string ⟨#[]⟩, .int .i64 0] 39) = w1 at *
  go_wp2_with fail
  have hrs : r.size ≤ 9223372036854775807 := by have := congrArg List.length h; simp only [List.length_cons, bts_len] at this; omega
  have hn := spanL_le quotedC (bts r)
  rw [bts_len] at hn
  refine (cut1_yes s _ r _ 34 rfl h).mono ?_
  rintro e w' ⟨rfl, rfl⟩
  go_wp2_with fail
  refine (span_quoted_any r _ hrs).mono ?_
  rintro e w2 ⟨rfl, hx⟩
  obtain ⟨c0, c1, c2, f0, f1, f2⟩ := (hr.ext hx).facts3
  clear hr
  go_wp2_with fail
  refine (starts_eq _ _ _ hq).mono ?_
  rintro e w' ⟨rfl, rfl⟩
  go_wp2_with fail
  exact bodyPost_ret (v := begV (3, (bts r).take (spanL quotedC (bts r)), spanL quotedC (bts r) + 2)) (by simp [results, Try.results92, go_sem, c0, c1, c2, begV, tokV, extract_txt]) rfl ⟨rfl, (by repeat (first | exact Ext.refl _ | with_reducible assumption | with_reducible refine Ext.alloc_of ?_ _ | with_reducible refine Ext.drewN_of ?_ _ | with_reducible refine Ext.drew_of ?_ | (with_reducible refine Ext.set_of ?_ ?hsz _; case hsz => ((first | exact Nat.le_refl _ | omega | (simp; omega)))) | with_reducible refine Ext.via (by assumption) ?_))⟩
theorem quote_at (r : List UInt8) (n : Nat) (hn : n ≤ r.length) : (bts ⟨#[34]⟩).isPrefixOf (bts ((txt r).extract n (txt r).size)) = decide (r[n]? = some 34) := by
  rw [bts_extract, bts_txt, txt_size, List.take_of_length_le (by simp)]
  have := hasPre (r.drop n) 34
  rw [List.head?_drop] at this
  exact this
theorem ask3_any (s : ByteArray) (b : Nat) (w : World) (hs : s.size ≤ 9223372036854775807) (hb : w.cell? ⟨b, 0, none⟩ = some (.string s)) :
    Calls Try.prog 92 #[.pointer (some ⟨b, 0, none⟩)] w fun e w' => e = .returned (begV (ask3 (bts s))) ∧ Ext w w' := by
  cases hl : bts s with
  | nil => exact ask3_no s b w hs hb (by rw [hl]; simp)
  | cons c r =>
    by_cases hc : c = 34
    · subst hc
      have h : bts s = 34 :: bts (txt r) := by rw [hl, bts_txt]
      have hq := quote_at r _ (spanL_le quotedC r)
      by_cases hn : spanL quotedC r ≤ 40
      · by_cases h34 : r[spanL quotedC r]? = some 34
        · rw [decide_eq_true h34] at hq
          have := ask3_yes (r := txt r) (by rw [bts_txt]; exact hn) (by rw [bts_txt r]; exact hq) s b w hs hb h
          rw [bts_txt] at this
          simpa [ask3, hn, h34] using this
        · rw [decide_eq_false h34] at hq
          have := ask3_open (r := txt r) (by rw [bts_txt]; exact hn) (by rw [bts_txt r]; exact hq) s b w hs hb h
          simpa [ask3, hn, h34] using this
      · have := ask3_long (r := txt r) (by rw [bts_txt]; omega) s b w hs hb h
        simpa [ask3, hn] using this
    · have := ask3_no s b w hs hb (by rw [hl]; simpa using hc)
      simpa [ask3, hc] using this
end Go.Proofs.Ytngnplghjaojhaa

/- Signs, and the fourth that is asked. -/
namespace Go.Proofs.Ytngnplghjaojhaa
set_option maxRecDepth 100000
set_option maxHeartbeats 2000000
set_option linter.unusedVariables false
set_option linter.unusedSimpArgs false
open Go.RowKit

def signKV : List (Value × Value) := signs.map fun x => (.int .i64 x.1, .agg #[.string (txt x.2)])
theorem signs_any (w : World) : Calls Try.prog 64 #[] w fun e w' => e = .returned (.map (some w.heap.size)) ∧ MapAt (.int .i64) w' w.heap.size signKV ∧ Ext w w' ∧ w'.heap.size = w.heap.size + 1 := by
  have hmm := @run_makeMap Try.prog
  have hM0 := MapAt.new (.int .i64) w
  have hB : Below w.heap.size w (w.alloc (.map #[] 0)) := Ext.alloc w _
  have hS : (w.alloc (.map #[] 0)).heap.size = w.heap.size + 1 := by simp
  have HM := Lib.hid hM0
  have HB := Lib.hid hB
  have HS := Lib.hid hS
  clear hM0 hB hS
  go_enter Try.func64, Try.ntmps64
  go_wp2_with (refine wpList_insert_new _ rfl _ _ _ _ rfl Try.underlying107 Try.underlying3 rfl rfl rfl HM.out rfl (notIn rfl) ?_; intro w1 hM1 hg hs; have HB2 := Lib.hid (below_grown HB.out hg (by have := HS.out; omega) (fun k hk => by cases hk; exact Nat.le_refl _)); have HS2 := Lib.hid (hs.trans HS.out); have HM2 := Lib.hid hM1; clear hM1 hg hs HB HS HM; have HB := HB2; have HS := HS2; have HM := HM2; clear HB2 HS2 HM2)
  go_ret
  exact ⟨rfl, HM.out, HB.out, HS.out⟩

theorem born_inj {es : Array MapEntry} {c : Nat} (h : MapKept.Stamped es c) {x y : MapEntry} (hx : x ∈ es.toList) (hy : y ∈ es.toList) (e : x.born = y.born) : x = y := by
  obtain ⟨i, hi, rfl⟩ := List.getElem_of_mem hx
  obtain ⟨j, hj, rfl⟩ := List.getElem_of_mem hy
  have hp := List.pairwise_iff_getElem.1 (List.pairwise_map.1 h.2.1)
  rcases Nat.lt_trichotomy i j with h | h | h
  · exact absurd e (hp i j hi hj h)
  · subst h; rfl
  · exact absurd e.symm (hp j i hj hi h)
theorem ask4_any (s : ByteArray) (b : Nat) (w : World) (hs : s.size ≤ 9223372036854775807) (hb : w.cell? ⟨b, 0, none⟩ = some (.string s)) :
    Calls Try.prog 95 #[.pointer (some ⟨b, 0, none⟩)] w fun e w' => e = .returned (begV (ask4 (bts s))) ∧ Ext w w' := by
  have hr := RowAt.new w 39 [.int .i64 0, .string ⟨#[]⟩, .int .i64 0]
  have hb1 := ext_cell (Ext.alloc w (.cells #[.int .i64 0, .string ⟨#[]⟩, .int .i64 0] 39)) hb
  go_enter Try.func95, Try.ntmps95
  go_upto_region 1 with fail
  have hx0 := Ext.alloc w (.cells #[.int .i64 0, .string ⟨#[]⟩, .int .i64 0] 39)
  generalize w.alloc (.cells #[.int .i64 0, .string ⟨#[]⟩, .int .i64 0] 39) = w1 at *
  go_wp2_with fail
  refine (signs_any _).mono ?_
  rintro e w2 ⟨rfl, hm, hx, hsz⟩
  have hrg := fun es c (h : w2.heap[w1.heap.size]? = some (.map es c)) => run_range_map (P := Try.prog) w2 107 _ _ _ es c Try.underlying107 h
  obtain ⟨es, c, h1, h2, h3, h4⟩ := id hm
  have hrg := hrg es c h1
  have H4 := Lib.hid h4
  clear h4
  go_wp2_with fail
  have H1 := Lib.hid h1
  have HB := Lib.hid ((hb1 |> ext_cell hx))
  have HR := Lib.hid (hr.ext hx)
  have hI := World.alloc_heap_new w2 (.mapIter (some w1.heap.size) c #[] c)
  have hbe : w2.heap.size = w1.heap.size + 1 := hsz
  rw [hbe] at hI
  have HI := Lib.hid hI
  have Hsz := Lib.hid hsz
  clear hrg h1 hI hbe hsz hr hb hb1 hm
  go_loopg [3] ((leftOf es #[]).size) (fun g _ wr => ∃ seen, g = (leftOf es seen).size ∧ Ext w2 wr ∧ wr.heap[w1.heap.size + 1]? = some (.mapIter (some w1.heap.size) c seen c) ∧ ∀ e ∈ es.toList, e.born ∈ seen → ∀ x ∈ signs, e.key = .int .i64 x.1 → x.2.isPrefixOf (bts s) = false)
  case atStart => exact ⟨#[], rfl, Ext.alloc _ _, HI.out, fun e _ h => by simp at h⟩
  case round =>
    obtain ⟨seen, hg, hxr, hit, hno⟩ := hrel
    have Hg := Lib.hid hg
    have Hno := Lib.hid hno
    clear hg hno
    rcases next_step (P := Try.prog) hxr (by rw [Hsz.out]; exact Nat.le_refl _) H1.out h2 hit with ⟨hz, hrun⟩ | ⟨e, W, he, hrun, hxW, hIW, hen⟩
    · have hall : ∀ x ∈ signs, x.2.isPrefixOf (bts s) = false := fun x hx => by
        have hk : (Value.int .i64 x.1, Value.agg #[.string (txt x.2)]) ∈ signKV := List.mem_map.2 ⟨x, hx, rfl⟩
        rw [← H4.out] at hk
        obtain ⟨e, he, hee⟩ := List.mem_map.1 hk
        simp only [Prod.mk.injEq] at hee
        refine Hno.out e he (Classical.byContradiction fun hs => ?_) x hx hee.1
        have := leftOf_mem.2 ⟨he, hs⟩
        rw [Array.eq_empty_of_size_eq_zero hz] at this
        simp at this
      have Hfin := Lib.hid (ask4_no hall)
      obtain ⟨c0, c1, c2, f0, f1, f2⟩ := (HR.out.ext hxr).facts3
      clear hall hz hit
      go_wp2_with fail
      exact bodyPost_ret (v := begV begNo) (by simp [results, Try.results95, go_sem, c0, c1, c2, begV, tokV, begNo, txt]) rfl ⟨by rw [Hfin.out], (by repeat (first | exact Ext.refl _ | with_reducible assumption | with_reducible refine Ext.alloc_of ?_ _ | with_reducible refine Ext.drewN_of ?_ _ | with_reducible refine Ext.drew_of ?_ | (with_reducible refine Ext.set_of ?_ ?hsz _; case hsz => ((first | exact Nat.le_refl _ | omega | (simp; omega)))) | with_reducible refine Ext.via (by assumption) ?_))⟩
    · obtain ⟨x, hx, hek, hev⟩ : ∃ x ∈ signs, e.key = .int .i64 x.1 ∧ e.val = .agg #[.string (txt x.2)] := by
        have hk : (e.key, e.val) ∈ signKV := by rw [← H4.out]; exact List.mem_map.2 ⟨e, (leftOf_mem.1 he).1, rfl⟩
        obtain ⟨x, hx, hee⟩ := List.mem_map.1 hk
        simp only [Prod.mk.injEq] at hee
        exact ⟨x, hx, hee.1.symm, hee.2.symm⟩
      rw [hek, hev] at hrun hen
      have hbW := ext_cell hxW HB.out
      have Hek := Lib.hid hek
      have Hx := Lib.hid hx
      have hlt := cell_lt hbW
      have hx32 : x.2.length ≤ 3 := by
        have : ∀ x ∈ signs, x.2.length ≤ 3 := by decide
        exact this x hx
      clear hek hev hx hit
      obtain ⟨xk, xt⟩ := x
      cases hp : xt.isPrefixOf (bts s) with
      | true =>
        have Hp := Lib.hid hp
        have Hfin := Lib.hid (ask4_yes Hx.out hp)
        clear hp
        go_wp2_with fail
        refine (starts_eq _ _ _ (r := true) (by rw [bts_txt]; exact Hp.out)).mono ?_
        rintro e w' ⟨rfl, rfl⟩
        obtain ⟨c0, c1, c2, f0, f1, f2⟩ := ((HR.out.ext hxW).ext (Ext.alloc W (.cells #[.string (txt xt)] 106))).facts3
        have d0 := (RowAt.new W 106 [.string (txt xt)]).facts1.1
        have hxV := hxW.trans (Ext.alloc W (.cells #[.string (txt xt)] 106))
        go_upto_region 5 with fail
        generalize hv : W.alloc (.cells #[.string (txt xt)] 106) = V at *
        clear hv hen hrun
        have hne : ¬ W.heap.size = w.heap.size := by have := HR.out.lt; have := hxW.size; omega
        have hne' : ¬ w.heap.size = W.heap.size := fun h => hne h.symm
        go_region
        all_goals go_wp2
        exact bodyPost_ret (v := begV (xk, [], xt.length)) (by simp [results, Try.results95, go_sem, c0, c1, c2, begV, tokV, txt, ByteArray.size]) rfl ⟨by rw [Hfin.out], (by repeat (first | exact Ext.refl _ | with_reducible assumption | with_reducible refine Ext.alloc_of ?_ _ | with_reducible refine Ext.drewN_of ?_ _ | with_reducible refine Ext.drew_of ?_ | (with_reducible refine Ext.set_of ?_ ?hsz _; case hsz => ((first | exact Nat.le_refl _ | omega | (simp; omega)))) | with_reducible refine Ext.via (by assumption) ?_))⟩
      | false =>
        have Hp := Lib.hid hp
        clear hp
        go_wp2_with fail
        refine (starts_eq _ _ _ (r := false) (by rw [bts_txt]; exact Hp.out)).mono ?_
        rintro e w' ⟨rfl, rfl⟩
        go_wp2_with fail
        go_roundg ((leftOf es (seen.push e.born)).size)
        case measure => have := Hg.out; have := leftOf_push he; omega
        case rel =>
          refine ⟨_, rfl, hxW.trans (Ext.alloc _ _), (Go.heap_alloc_old _ _ (Array.getElem?_eq_some_iff.1 hIW).1).trans hIW, fun e' he' hin y hy hk => ?_⟩
          have he'' := leftOf_mem.1 he
          rcases Array.mem_push.1 hin with hin | hin
          · exact Hno.out e' he' hin y hy hk
          · have : e' = e := born_inj h2 he' he''.1 hin
            subst this
            rw [Hek.out] at hk
            have hy1 : y.1 = xk := by simpa using hk.symm
            have hyx : y = (xk, xt) := by
              have hf : ∀ y ∈ signs, ∀ x ∈ signs, y.1 = x.1 → y = x := by decide
              exact hf y hy _ Hx.out hy1
            rw [hyx]; exact Hp.out

end Go.Proofs.Ytngnplghjaojhaa
