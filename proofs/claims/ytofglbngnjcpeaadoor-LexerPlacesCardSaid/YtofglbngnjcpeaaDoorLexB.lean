/- Words; what a text begins with: the first three asked. -/
import Derived.Test.YtofglbngnjcpeaaDoorLexA
import Derived.Test.YtofglbngnjcpeaaDoorShelf
import Derived.Test.YtofglbngnjcpeaaDoorKit
namespace Go.Proofs.YtofglbngnjcpeaaDoor
set_option maxRecDepth 100000
set_option maxHeartbeats 2000000
set_option linter.unusedVariables false
set_option linter.unusedSimpArgs false
open Go.RowKit

theorem word_any (s : ByteArray) (w : World) (hs : s.size ≤ 9223372036854775807) :
    Calls Tryd.prog 31 #[.string s] w fun e w' => e = .returned (.int .i64 (wordN (bts s))) ∧ Ext w w' := by
  have hl := spanL_le letterC (bts s)
  rw [bts_len] at hl
  by_cases h : 32 < spanL letterC (bts s)
  · have hd : decide (((spanL letterC (bts s) : Nat) : Int) > 32) = true := by simp; omega
    go_enter Tryd.func31, Tryd.ntmps31
    go_wp2_with fail
    refine (span_letter_any s _ hs).mono ?_
    rintro e w' ⟨rfl, hx⟩
    go_wp2_with fail
    go_ret
    exact ⟨ret_int (by unfold wordN; rw [if_pos h]; rfl), hx⟩
  · go_enter Tryd.func31, Tryd.ntmps31
    go_wp2_with fail
    refine (span_letter_any s _ hs).mono ?_
    rintro e w' ⟨rfl, hx⟩
    go_wp2_with fail
    go_ret
    exact ⟨ret_int (by unfold wordN; rw [if_neg h]), hx⟩

/-- A text without its first byte, if it is that. -/
theorem hasPre (l : List UInt8) (c : UInt8) : Lib.hasPrefix l [c] = decide (l.head? = some c) := by
  cases l with
  | nil => rfl
  | cons x l => simp only [Lib.hasPrefix, List.isPrefixOf, Bool.and_true, List.head?_cons, Option.some.injEq]; rw [Bool.eq_iff_iff, beq_iff_eq, decide_eq_true_iff]; exact eq_comm
theorem cut1_yes (s p r : ByteArray) (w : World) (c : UInt8) (hp : p = ⟨#[c]⟩) (h : bts s = c :: bts r) :
    Calls Tryd.prog 33 #[.string s, .string p] w fun e w' => e = .returned (.tuple #[.string r, .bool true]) ∧ w = w' := by
  subst hp
  refine (Tryd.strings_CutPrefix s ⟨#[c]⟩ w).mono fun e w' ⟨he, hw⟩ => ⟨?_, hw.symm⟩
  rw [he]
  have h' : s.data.toList = c :: bts r := h
  have e1 : Lib.hasPrefix s.data.toList [c] = true := by rw [h', hasPre]; simp
  have e2 : Lib.trimPrefix s.data.toList [c] = bts r := by rw [h']; simp [Lib.trimPrefix, hasPre]
  show Ending.returned (.tuple #[.string (txt (Lib.trimPrefix s.data.toList [c])), .bool (Lib.hasPrefix s.data.toList [c])]) = _
  rw [e1, e2, txt_bts]
theorem cut1_no (s p : ByteArray) (w : World) (c : UInt8) (hp : p = ⟨#[c]⟩) (h : (bts s).head? ≠ some c) :
    Calls Tryd.prog 33 #[.string s, .string p] w fun e w' => e = .returned (.tuple #[.string s, .bool false]) ∧ w = w' := by
  subst hp
  refine (Tryd.strings_CutPrefix s ⟨#[c]⟩ w).mono fun e w' ⟨he, hw⟩ => ⟨?_, hw.symm⟩
  rw [he]
  have e1 : Lib.hasPrefix s.data.toList [c] = false := by rw [hasPre]; exact decide_eq_false h
  have e2 : Lib.trimPrefix s.data.toList [c] = bts s := by unfold Lib.trimPrefix; rw [e1]; rfl
  show Ending.returned (.tuple #[.string (txt (Lib.trimPrefix s.data.toList [c])), .bool (Lib.hasPrefix s.data.toList [c])]) = _
  rw [e1, e2, txt_bts]
theorem starts_any (s p : ByteArray) (w : World) :
    Calls Tryd.prog 7 #[.string s, .string p] w fun e w' => e = .returned (.bool ((bts p).isPrefixOf (bts s))) ∧ w = w' :=
  (Tryd.strings_HasPrefix s p w).mono fun e w' ⟨he, hw⟩ => ⟨he, hw.symm⟩

/-- A token. -/
def tokV (k : Int) (l : List UInt8) (at_ : Int) : Value := .agg #[.int .i64 k, .string (txt l), .int .i64 at_]
def begV (b : Beg) : Value := .tuple #[tokV b.1 b.2.1 0, .int .i64 b.2.2]

theorem ask1_any (s : ByteArray) (b : Nat) (w : World) (hs : s.size ≤ 9223372036854775807) (hb : w.cell? ⟨b, 0, none⟩ = some (.string s)) :
    Calls Tryd.prog 30 #[.pointer (some ⟨b, 0, none⟩)] w fun e w' => e = .returned (begV (ask1 (bts s))) ∧ Ext w w' := by
  have hn := wordN_le (bts s)
  rw [bts_len] at hn
  have hr := RowAt.new w 28 [.int .i64 0, .string ⟨#[]⟩, .int .i64 0]
  have hb1 := ext_cell (Ext.alloc w (.cells #[.int .i64 0, .string ⟨#[]⟩, .int .i64 0] 28)) hb
  go_enter Tryd.func30, Tryd.ntmps30
  go_upto_region 1 with fail
  have hx0 := Ext.alloc w (.cells #[.int .i64 0, .string ⟨#[]⟩, .int .i64 0] 28)
  generalize w.alloc (.cells #[.int .i64 0, .string ⟨#[]⟩, .int .i64 0] 28) = w1 at *
  go_wp2_with fail
  refine (word_any s _ hs).mono ?_
  rintro e w2 ⟨rfl, hx⟩
  have hb2 := ext_cell hx hb1
  obtain ⟨c0, c1, c2, f0, f1, f2⟩ := (hr.ext hx).facts3
  clear hr
  go_wp2_with fail
  exact bodyPost_ret (v := begV (ask1 (bts s))) (by simp [results, Tryd.results30, go_sem, c0, c1, c2, begV, tokV, ask1, extract_txt]) rfl ⟨rfl, (by repeat (first | exact Ext.refl _ | with_reducible assumption | with_reducible refine Ext.alloc_of ?_ _ | with_reducible refine Ext.drewN_of ?_ _ | with_reducible refine Ext.drew_of ?_ | (with_reducible refine Ext.set_of ?_ ?hsz _; case hsz => ((first | exact Nat.le_refl _ | omega | (simp; omega)))) | with_reducible refine Ext.via (by assumption) ?_))⟩

theorem ask2_no (s : ByteArray) (b : Nat) (w : World) (hs : s.size ≤ 9223372036854775807) (hb : w.cell? ⟨b, 0, none⟩ = some (.string s)) (h : (bts s).head? ≠ some 64) :
    Calls Tryd.prog 32 #[.pointer (some ⟨b, 0, none⟩)] w fun e w' => e = .returned (begV begNo) ∧ Ext w w' := by
  have hr := RowAt.new w 28 [.int .i64 0, .string ⟨#[]⟩, .int .i64 0]
  have hb1 := ext_cell (Ext.alloc w (.cells #[.int .i64 0, .string ⟨#[]⟩, .int .i64 0] 28)) hb
  go_enter Tryd.func32, Tryd.ntmps32
  go_upto_region 1 with fail
  have hx0 := Ext.alloc w (.cells #[.int .i64 0, .string ⟨#[]⟩, .int .i64 0] 28)
  generalize w.alloc (.cells #[.int .i64 0, .string ⟨#[]⟩, .int .i64 0] 28) = w1 at *
  go_wp2_with fail
  refine (cut1_no s _ _ 64 rfl h).mono ?_
  rintro e w' ⟨rfl, rfl⟩
  go_wp2_with fail
  refine (word_any s _ hs).mono ?_
  rintro e w2 ⟨rfl, hx⟩
  obtain ⟨c0, c1, c2, f0, f1, f2⟩ := (hr.ext hx).facts3
  clear hr
  go_wp2_with fail
  exact bodyPost_ret (v := begV begNo) (by simp [results, Tryd.results32, go_sem, c0, c1, c2, begV, tokV, begNo, txt]) rfl ⟨rfl, (by repeat (first | exact Ext.refl _ | with_reducible assumption | with_reducible refine Ext.alloc_of ?_ _ | with_reducible refine Ext.drewN_of ?_ _ | with_reducible refine Ext.drew_of ?_ | (with_reducible refine Ext.set_of ?_ ?hsz _; case hsz => ((first | exact Nat.le_refl _ | omega | (simp; omega)))) | with_reducible refine Ext.via (by assumption) ?_))⟩
theorem ask2_nil {r : ByteArray} (hd : ((wordN (bts r) : Nat) : Int) == 0) (s : ByteArray) (b : Nat) (w : World) (hs : s.size ≤ 9223372036854775807) (hb : w.cell? ⟨b, 0, none⟩ = some (.string s)) (h : bts s = 64 :: bts r) :
    Calls Tryd.prog 32 #[.pointer (some ⟨b, 0, none⟩)] w fun e w' => e = .returned (begV begNo) ∧ Ext w w' := by
  have hr := RowAt.new w 28 [.int .i64 0, .string ⟨#[]⟩, .int .i64 0]
  have hb1 := ext_cell (Ext.alloc w (.cells #[.int .i64 0, .string ⟨#[]⟩, .int .i64 0] 28)) hb
  go_enter Tryd.func32, Tryd.ntmps32
  go_upto_region 1 with fail
  have hx0 := Ext.alloc w (.cells #[.int .i64 0, .string ⟨#[]⟩, .int .i64 0] 28)
  generalize w.alloc (.cells #[.int .i64 0, .string ⟨#[]⟩, .int .i64 0] 28) = w1 at *
  go_wp2_with fail
  have hrs : r.size ≤ 9223372036854775807 := by have := congrArg List.length h; simp only [List.length_cons, bts_len] at this; omega
  refine (cut1_yes s _ r _ 64 rfl h).mono ?_
  rintro e w' ⟨rfl, rfl⟩
  go_wp2_with fail
  refine (word_any r _ hrs).mono ?_
  rintro e w2 ⟨rfl, hx⟩
  obtain ⟨c0, c1, c2, f0, f1, f2⟩ := (hr.ext hx).facts3
  clear hr
  go_wp2_with fail
  exact bodyPost_ret (v := begV begNo) (by simp [results, Tryd.results32, go_sem, c0, c1, c2, begV, tokV, begNo, txt]) rfl ⟨rfl, (by repeat (first | exact Ext.refl _ | with_reducible assumption | with_reducible refine Ext.alloc_of ?_ _ | with_reducible refine Ext.drewN_of ?_ _ | with_reducible refine Ext.drew_of ?_ | (with_reducible refine Ext.set_of ?_ ?hsz _; case hsz => ((first | exact Nat.le_refl _ | omega | (simp; omega)))) | with_reducible refine Ext.via (by assumption) ?_))⟩
theorem ask2_yes {r : ByteArray} (hd : (((wordN (bts r) : Nat) : Int) == 0) = false) (s : ByteArray) (b : Nat) (w : World) (hs : s.size ≤ 9223372036854775807) (hb : w.cell? ⟨b, 0, none⟩ = some (.string s)) (h : bts s = 64 :: bts r) :
    Calls Tryd.prog 32 #[.pointer (some ⟨b, 0, none⟩)] w fun e w' => e = .returned (begV (2, (bts r).take (wordN (bts r)), wordN (bts r) + 1)) ∧ Ext w w' := by
  have hr := RowAt.new w 28 [.int .i64 0, .string ⟨#[]⟩, .int .i64 0]
  have hb1 := ext_cell (Ext.alloc w (.cells #[.int .i64 0, .string ⟨#[]⟩, .int .i64 0] 28)) hb
  go_enter Tryd.func32, Tryd.ntmps32
  go_upto_region 1 with fail
  have hx0 := Ext.alloc w (.cells #[.int .i64 0, .string ⟨#[]⟩, .int .i64 0] 28)
  generalize w.alloc (.cells #[.int .i64 0, .string ⟨#[]⟩, .int .i64 0] 28) = w1 at *
  go_wp2_with fail
  have hrs : r.size ≤ 9223372036854775807 := by have := congrArg List.length h; simp only [List.length_cons, bts_len] at this; omega
  have hn := wordN_le (bts r)
  rw [bts_len] at hn
  have hn32 : wordN (bts r) ≤ 32 := by unfold wordN; split <;> omega
  refine (cut1_yes s _ r _ 64 rfl h).mono ?_
  rintro e w' ⟨rfl, rfl⟩
  go_wp2_with fail
  refine (word_any r _ hrs).mono ?_
  rintro e w2 ⟨rfl, hx⟩
  obtain ⟨c0, c1, c2, f0, f1, f2⟩ := (hr.ext hx).facts3
  clear hr
  go_wp2_with fail
  exact bodyPost_ret (v := begV (2, (bts r).take (wordN (bts r)), wordN (bts r) + 1)) (by simp [results, Tryd.results32, go_sem, c0, c1, c2, begV, tokV, extract_txt]) rfl ⟨rfl, (by repeat (first | exact Ext.refl _ | with_reducible assumption | with_reducible refine Ext.alloc_of ?_ _ | with_reducible refine Ext.drewN_of ?_ _ | with_reducible refine Ext.drew_of ?_ | (with_reducible refine Ext.set_of ?_ ?hsz _; case hsz => ((first | exact Nat.le_refl _ | omega | (simp; omega)))) | with_reducible refine Ext.via (by assumption) ?_))⟩
theorem ask2_any (s : ByteArray) (b : Nat) (w : World) (hs : s.size ≤ 9223372036854775807) (hb : w.cell? ⟨b, 0, none⟩ = some (.string s)) :
    Calls Tryd.prog 32 #[.pointer (some ⟨b, 0, none⟩)] w fun e w' => e = .returned (begV (ask2 (bts s))) ∧ Ext w w' := by
  cases hl : bts s with
  | nil => exact ask2_no s b w hs hb (by rw [hl]; simp)
  | cons c r =>
    by_cases hc : c = 64
    · subst hc
      have h : bts s = 64 :: bts (txt r) := by rw [hl, bts_txt]
      by_cases hn : wordN r = 0
      · have := ask2_nil (r := txt r) (by rw [bts_txt, hn]; rfl) s b w hs hb h
        simpa [ask2, hn] using this
      · have := ask2_yes (r := txt r) (by rw [bts_txt]; simp; omega) s b w hs hb h
        rw [bts_txt] at this
        simpa [ask2, hn] using this
    · have := ask2_no s b w hs hb (by rw [hl]; simpa using hc)
      simpa [ask2, hc] using this

theorem starts_eq (s p : ByteArray) (w : World) {r : Bool} (h : (bts p).isPrefixOf (bts s) = r) :
    Calls Tryd.prog 7 #[.string s, .string p] w fun e w' => e = .returned (.bool r) ∧ w = w' := h ▸ starts_any s p w
theorem ask3_no (s : ByteArray) (b : Nat) (w : World) (hs : s.size ≤ 9223372036854775807) (hb : w.cell? ⟨b, 0, none⟩ = some (.string s)) (h : (bts s).head? ≠ some 34) :
    Calls Tryd.prog 34 #[.pointer (some ⟨b, 0, none⟩)] w fun e w' => e = .returned (begV begNo) ∧ Ext w w' := by
  have hr := RowAt.new w 28 [.int .i64 0, .string ⟨#[]⟩, .int .i64 0]
  have hb1 := ext_cell (Ext.alloc w (.cells #[.int .i64 0, .string ⟨#[]⟩, .int .i64 0] 28)) hb
  go_enter Tryd.func34, Tryd.ntmps34
  go_upto_region 1 with fail
  have hx0 := Ext.alloc w (.cells #[.int .i64 0, .string ⟨#[]⟩, .int .i64 0] 28)
  generalize w.alloc (.cells #[.int .i64 0, .string ⟨#[]⟩, .int .i64 0] 28) = w1 at *
  go_wp2_with fail
  refine (cut1_no s _ _ 34 rfl h).mono ?_
  rintro e w' ⟨rfl, rfl⟩
  go_wp2_with fail
  refine (span_quoted_any s _ hs).mono ?_
  rintro e w2 ⟨rfl, hx⟩
  obtain ⟨c0, c1, c2, f0, f1, f2⟩ := (hr.ext hx).facts3
  clear hr
  go_wp2_with fail
  exact bodyPost_ret (v := begV begNo) (by simp [results, Tryd.results34, go_sem, c0, c1, c2, begV, tokV, begNo, txt]) rfl ⟨rfl, (by repeat (first | exact Ext.refl _ | with_reducible assumption | with_reducible refine Ext.alloc_of ?_ _ | with_reducible refine Ext.drewN_of ?_ _ | with_reducible refine Ext.drew_of ?_ | (with_reducible refine Ext.set_of ?_ ?hsz _; case hsz => ((first | exact Nat.le_refl _ | omega | (simp; omega)))) | with_reducible refine Ext.via (by assumption) ?_))⟩
theorem ask3_long {r : ByteArray} (hd : 40 < spanL quotedC (bts r)) (s : ByteArray) (b : Nat) (w : World) (hs : s.size ≤ 9223372036854775807) (hb : w.cell? ⟨b, 0, none⟩ = some (.string s)) (h : bts s = 34 :: bts r) :
    Calls Tryd.prog 34 #[.pointer (some ⟨b, 0, none⟩)] w fun e w' => e = .returned (begV begNo) ∧ Ext w w' := by
  have hr := RowAt.new w 28 [.int .i64 0, .string ⟨#[]⟩, .int .i64 0]
  have hb1 := ext_cell (Ext.alloc w (.cells #[.int .i64 0, .string ⟨#[]⟩, .int .i64 0] 28)) hb
  go_enter Tryd.func34, Tryd.ntmps34
  go_upto_region 1 with fail
  have hx0 := Ext.alloc w (.cells #[.int .i64 0, .string ⟨#[]⟩, .int .i64 0] 28)
  generalize w.alloc (.cells #[.int .i64 0, .string ⟨#[]⟩, .int .i64 0] 28) = w1 at *
  go_wp2_with fail
  have hrs : r.size ≤ 9223372036854775807 := by have := congrArg List.length h; simp only [List.length_cons, bts_len] at this; omega
  refine (cut1_yes s _ r _ 34 rfl h).mono ?_
  rintro e w' ⟨rfl, rfl⟩
  go_wp2_with fail
  refine (span_quoted_any r _ hrs).mono ?_
  rintro e w2 ⟨rfl, hx⟩
  obtain ⟨c0, c1, c2, f0, f1, f2⟩ := (hr.ext hx).facts3
  clear hr
  go_wp2_with fail
  exact bodyPost_ret (v := begV begNo) (by simp [results, Tryd.results34, go_sem, c0, c1, c2, begV, tokV, begNo, txt]) rfl ⟨rfl, (by repeat (first | exact Ext.refl _ | with_reducible assumption | with_reducible refine Ext.alloc_of ?_ _ | with_reducible refine Ext.drewN_of ?_ _ | with_reducible refine Ext.drew_of ?_ | (with_reducible refine Ext.set_of ?_ ?hsz _; case hsz => ((first | exact Nat.le_refl _ | omega | (simp; omega)))) | with_reducible refine Ext.via (by assumption) ?_))⟩
theorem ask3_open {r : ByteArray} (hd : spanL quotedC (bts r) ≤ 40) (hq : (bts ⟨#[34]⟩).isPrefixOf (bts (r.extract (spanL quotedC (bts r)) r.size)) = false) (s : ByteArray) (b : Nat) (w : World) (hs : s.size ≤ 9223372036854775807) (hb : w.cell? ⟨b, 0, none⟩ = some (.string s)) (h : bts s = 34 :: bts r) :
    Calls Tryd.prog 34 #[.pointer (some ⟨b, 0, none⟩)] w fun e w' => e = .returned (begV begNo) ∧ Ext w w' := by
  have hr := RowAt.new w 28 [.int .i64 0, .string ⟨#[]⟩, .int .i64 0]
  have hb1 := ext_cell (Ext.alloc w (.cells #[.int .i64 0, .string ⟨#[]⟩, .int .i64 0] 28)) hb
  go_enter Tryd.func34, Tryd.ntmps34
  go_upto_region 1 with fail
  have hx0 := Ext.alloc w (.cells #[.int .i64 0, .string ⟨#[]⟩, .int .i64 0] 28)
  generalize w.alloc (.cells #[.int .i64 0, .string ⟨#[]⟩, .int .i64 0] 28) = w1 at *
  go_wp2_with fail
  have hrs : r.size ≤ 9223372036854775807 := by have := congrArg List.length h; simp only [List.length_cons, bts_len] at this; omega
  have hn := spanL_le quotedC (bts r)
  rw [bts_len] at hn
  refine (cut1_yes s _ r _ 34 rfl h).mono ?_
  rintro e w' ⟨rfl, rfl⟩
  go_wp2_with fail
  refine (span_quoted_any r _ hrs).mono ?_
  rintro e w2 ⟨rfl, hx⟩
  obtain ⟨c0, c1, c2, f0, f1, f2⟩ := (hr.ext hx).facts3
  clear hr
  go_wp2_with fail
  refine (starts_eq _ _ _ hq).mono ?_
  rintro e w' ⟨rfl, rfl⟩
  go_wp2_with fail
  exact bodyPost_ret (v := begV begNo) (by simp [results, Tryd.results34, go_sem, c0, c1, c2, begV, tokV, begNo, txt]) rfl ⟨rfl, (by repeat (first | exact Ext.refl _ | with_reducible assumption | with_reducible refine Ext.alloc_of ?_ _ | with_reducible refine Ext.drewN_of ?_ _ | with_reducible refine Ext.drew_of ?_ | (with_reducible refine Ext.set_of ?_ ?hsz _; case hsz => ((first | exact Nat.le_refl _ | omega | (simp; omega)))) | with_reducible refine Ext.via (by assumption) ?_))⟩
theorem ask3_yes {r : ByteArray} (hd : spanL quotedC (bts r) ≤ 40) (hq : (bts ⟨#[34]⟩).isPrefixOf (bts (r.extract (spanL quotedC (bts r)) r.size)) = true) (s : ByteArray) (b : Nat) (w : World) (hs : s.size ≤ 9223372036854775807) (hb : w.cell? ⟨b, 0, none⟩ = some (.string s)) (h : bts s = 34 :: bts r) :
    Calls Tryd.prog 34 #[.pointer (some ⟨b, 0, none⟩)] w fun e w' => e = .returned (begV (3, (bts r).take (spanL quotedC (bts r)), spanL quotedC (bts r) + 2)) ∧ Ext w w' := by
  have hr := RowAt.new w 28 [.int .i64 0, .string ⟨#[]⟩, .int .i64 0]
  have hb1 := ext_cell (Ext.alloc w (.cells #[.int .i64 0, .string ⟨#[]⟩, .int .i64 0] 28)) hb
  go_enter Tryd.func34, Tryd.ntmps34
  go_upto_region 1 with fail
  have hx0 := Ext.alloc w (.cells #[.int .i64 0, .string ⟨#[]⟩, .int .i64 0] 28)
  generalize w.alloc (.cells #[.int .i64 0, .string ⟨#[]⟩, .int .i64 0] 28) = w1 at *
  go_wp2_with fail
  have hrs : r.size ≤ 9223372036854775807 := by have := congrArg List.length h; simp only [List.length_cons, bts_len] at this; omega
  have hn := spanL_le quotedC (bts r)
  rw [bts_len] at hn
  refine (cut1_yes s _ r _ 34 rfl h).mono ?_
  rintro e w' ⟨rfl, rfl⟩
  go_wp2_with fail
  refine (span_quoted_any r _ hrs).mono ?_
  rintro e w2 ⟨rfl, hx⟩
  obtain ⟨c0, c1, c2, f0, f1, f2⟩ := (hr.ext hx).facts3
  clear hr
  go_wp2_with fail
  refine (starts_eq _ _ _ hq).mono ?_
  rintro e w' ⟨rfl, rfl⟩
  go_wp2_with fail
  exact bodyPost_ret (v := begV (3, (bts r).take (spanL quotedC (bts r)), spanL quotedC (bts r) + 2)) (by simp [results, Tryd.results34, go_sem, c0, c1, c2, begV, tokV, extract_txt]) rfl ⟨rfl, (by repeat (first | exact Ext.refl _ | with_reducible assumption | with_reducible refine Ext.alloc_of ?_ _ | with_reducible refine Ext.drewN_of ?_ _ | with_reducible refine Ext.drew_of ?_ | (with_reducible refine Ext.set_of ?_ ?hsz _; case hsz => ((first | exact Nat.le_refl _ | omega | (simp; omega)))) | with_reducible refine Ext.via (by assumption) ?_))⟩
theorem quote_at (r : List UInt8) (n : Nat) (hn : n ≤ r.length) : (bts ⟨#[34]⟩).isPrefixOf (bts ((txt r).extract n (txt r).size)) = decide (r[n]? = some 34) := by
  rw [bts_extract, bts_txt, txt_size, List.take_of_length_le (by simp)]
  have := hasPre (r.drop n) 34
  rw [List.head?_drop] at this
  exact this
theorem ask3_any (s : ByteArray) (b : Nat) (w : World) (hs : s.size ≤ 9223372036854775807) (hb : w.cell? ⟨b, 0, none⟩ = some (.string s)) :
    Calls Tryd.prog 34 #[.pointer (some ⟨b, 0, none⟩)] w fun e w' => e = .returned (begV (ask3 (bts s))) ∧ Ext w w' := by
  cases hl : bts s with
  | nil => exact ask3_no s b w hs hb (by rw [hl]; simp)
  | cons c r =>
    by_cases hc : c = 34
    · subst hc
      have h : bts s = 34 :: bts (txt r) := by rw [hl, bts_txt]
      have hq := quote_at r _ (spanL_le quotedC r)
      by_cases hn : spanL quotedC r ≤ 40
      · by_cases h34 : r[spanL quotedC r]? = some 34
        · rw [decide_eq_true h34] at hq
          have := ask3_yes (r := txt r) (by rw [bts_txt]; exact hn) (by rw [bts_txt r]; exact hq) s b w hs hb h
          rw [bts_txt] at this
          simpa [ask3, hn, h34] using this
        · rw [decide_eq_false h34] at hq
          have := ask3_open (r := txt r) (by rw [bts_txt]; exact hn) (by rw [bts_txt r]; exact hq) s b w hs hb h
          simpa [ask3, hn, h34] using this
      · have := ask3_long (r := txt r) (by rw [bts_txt]; omega) s b w hs hb h
        simpa [ask3, hn] using this
    · have := ask3_no s b w hs hb (by rw [hl]; simpa using hc)
      simpa [ask3, hc] using this
end Go.Proofs.YtofglbngnjcpeaaDoor
