/- The reference's letters, words, signs. -/
import Derived.Test.YtngnplghjaojhaaGp05
import Derived.Test.YtngnplghjaojhaaGp06
import Derived.Deep.CutBlock
namespace Go.Proofs.Ytngnplghjaojhaa
set_option maxRecDepth 100000
set_option maxHeartbeats 2000000
set_option linter.unusedVariables false
set_option linter.unusedSimpArgs false
open Go.RowKit

theorem letterR (c : Int) (w : World) : Calls Try.prog 71 #[.int .u8 c] w fun e w' => e = .returned (.bool (letterC c)) ∧ w = w' := by
  go_enter Try.func71, Try.ntmps71
  go_wp2
  all_goals (go_ret; exact ⟨ret_bool (by unfold letterC; rw [Bool.eq_iff_iff]; simp; try omega), rfl⟩)
theorem quotedR (c : Int) (w : World) : Calls Try.prog 111 #[.int .u8 c] w fun e w' => e = .returned (.bool (quotedC c)) ∧ w = w' := by
  go_enter Try.func111, Try.ntmps111
  go_wp2
  all_goals (go_ret; exact ⟨ret_bool (by unfold quotedC; rw [Bool.eq_iff_iff]; simp; try omega), rfl⟩)

theorem run_any (s : ByteArray) (w : World) (hs : s.size ≤ 9223372036854775807) :
    Calls Try.prog 72 #[.string s] w fun e w' => e = .returned (.int .i64 (spanL letterC (bts s))) ∧ w = w' := by
  go_enter Try.func72, Try.ntmps72
  go_wp2_with fail
  go_loop [3] (fun i => ∃ k : Nat, k ≤ s.size ∧ i = .int .i64 k ∧ spanL letterC (bts s) = k + spanL letterC ((bts s).drop k)) (fun i => s.size - (intOf i).toNat)
  case atStart => exact ⟨0, Nat.zero_le _, rfl, by simp⟩
  case round =>
    obtain ⟨k, hk, rfl, hsp⟩ := hrel
    have Hsp := Lib.hid hsp
    clear hsp
    by_cases hlt : k < s.size
    · have hb : s[k].toNat < 256 := s[k].toNat_lt
      cases hp : letterC (s[k].toNat : Int) with
      | true =>
        have Hd := Lib.hid (spanL_drop_yes (p := letterC) hlt hp)
        go_wp2_with (go_at_call 71; refine (letterR _ _).mono ?_; rintro e w' ⟨rfl, rfl⟩)
        go_round
        case rel => exact ⟨k + 1, by omega, by go_num, by rw [Hsp.out, Hd.out]; omega⟩
        case measure => simp [intOf]; omega
      | false =>
        have Hd := Lib.hid (spanL_drop_no (p := letterC) hlt hp)
        go_wp2_with (go_at_call 71; refine (letterR _ _).mono ?_; rintro e w' ⟨rfl, rfl⟩)
        go_ret
        exact ⟨ret_int (by rw [Hsp.out, Hd.out]; omega), rfl⟩
    · have Hd : Hid (spanL letterC ((bts s).drop k) = 0) := Lib.hid (by rw [List.drop_eq_nil_of_le (by rw [bts_len]; omega)]; rfl)
      go_wp2_with fail
      go_ret
      exact ⟨ret_int (by rw [Hsp.out, Hd.out]; omega), rfl⟩

theorem prefix_take (s p : ByteArray) (h : p.size ≤ s.size) : ((s.extract 0 p.size).toList == p.toList) = (bts p).isPrefixOf (bts s) := by
  rw [ByteArray.toList_eq, ByteArray.toList_eq]
  have e : (s.extract 0 p.size).data.toList = (bts s).take p.size := by
    have := bts_extract s 0 p.size
    unfold bts at this ⊢
    rw [this]; simp
  rw [e, Bool.eq_iff_iff, beq_iff_eq, List.isPrefixOf_iff_prefix]
  constructor
  · intro h'
    have : bts p = (bts s).take p.size := h'.symm
    rw [this]; exact List.take_prefix _ _
  · intro h'
    have := List.prefix_iff_eq_take.1 h'
    rw [bts_len] at this
    exact this.symm
theorem startsR (s p : ByteArray) (w : World) (hs : s.size ≤ 9223372036854775807) :
    Calls Try.prog 73 #[.string s, .string p] w fun e w' => e = .returned (.bool ((bts p).isPrefixOf (bts s))) ∧ w = w' := by
  by_cases h : p.size ≤ s.size
  · have hp := Lib.hid (prefix_take s p h)
    go_enter Try.func73, Try.ntmps73
    go_wp2_with fail
    go_ret
    exact ⟨ret_bool hp.out, rfl⟩
  · have hp : (bts p).isPrefixOf (bts s) = false := by
      rw [Bool.eq_false_iff]
      intro h'
      have := (List.isPrefixOf_iff_prefix.1 h').length_le
      rw [bts_len, bts_len] at this; omega
    rw [hp]
    clear hp
    go_enter Try.func73, Try.ntmps73
    go_wp2_with fail
    go_ret
    exact ⟨rfl, rfl⟩

/-- A row of bytes that all hold, and how many there may be. -/
def allB (p : Int → Bool) (lo hi : Nat) (l : List UInt8) : Bool := decide (spanL p l = l.length) && (decide (lo ≤ l.length) && decide (l.length ≤ hi))
theorem wordR (s : ByteArray) (w : World) (hs : s.size ≤ 9223372036854775807) :
    Calls Try.prog 99 #[.string s] w fun e w' => e = .returned (.bool (allB letterC 1 32 (bts s))) ∧ w = w' := by
  have hall : allB letterC 1 32 (bts s) = (decide (spanL letterC (bts s) = s.size) && (decide (1 ≤ s.size) && decide (s.size ≤ 32))) := by unfold allB; rw [bts_len]
  have Hall := Lib.hid hall
  clear hall
  go_enter Try.func99, Try.ntmps99
  go_wp2_with fail
  go_loop [6] (fun i => ∃ k : Nat, k ≤ s.size ∧ i = .int .i64 k ∧ spanL letterC (bts s) = k + spanL letterC ((bts s).drop k)) (fun i => s.size - (intOf i).toNat)
  case atStart => exact ⟨0, Nat.zero_le _, rfl, by simp⟩
  case round =>
    obtain ⟨k, hk, rfl, hsp⟩ := hrel
    have Hsp := Lib.hid hsp
    clear hsp
    by_cases hlt : k < s.size
    · have hb : s[k].toNat < 256 := s[k].toNat_lt
      cases hp : letterC (s[k].toNat : Int) with
      | true =>
        have Hd := Lib.hid (spanL_drop_yes (p := letterC) hlt hp)
        go_wp2_with (go_at_call 71; refine (letterR _ _).mono ?_; rintro e w' ⟨rfl, rfl⟩)
        go_round
        case rel => exact ⟨k + 1, by omega, by go_num, by rw [Hsp.out, Hd.out]; omega⟩
        case measure => simp [intOf]; omega
      | false =>
        have Hd := Lib.hid (spanL_drop_no (p := letterC) hlt hp)
        go_wp2_with (go_at_call 71; refine (letterR _ _).mono ?_; rintro e w' ⟨rfl, rfl⟩)
        go_ret
        exact ⟨ret_bool (by rw [Hall.out, Hsp.out, Hd.out, decide_eq_false (by omega)]; rfl), rfl⟩
    · have Hd : Hid (spanL letterC (bts s) = s.size) := Lib.hid (by rw [Hsp.out, List.drop_eq_nil_of_le (by rw [bts_len]; omega)]; simp [spanL]; omega)
      by_cases h1 : 1 ≤ s.size
      · by_cases h2 : s.size ≤ 32
        · have HF : Hid (allB letterC 1 32 (bts s) = true) := Lib.hid (by rw [Hall.out, Hd.out, decide_eq_true h1, decide_eq_true h2]; simp)
          go_wp2_with fail
          go_ret
          exact ⟨ret_bool (by first | (rw [HF.out]; done) | (rw [HF.out]; simp; done) | (rw [HF.out]; simp; omega)), rfl⟩
        · have HF : Hid (allB letterC 1 32 (bts s) = false) := Lib.hid (by rw [Hall.out, decide_eq_false h2]; simp)
          go_wp2_with fail
          go_ret
          exact ⟨ret_bool (by first | (rw [HF.out]; done) | (rw [HF.out]; simp; done) | (rw [HF.out]; simp; omega)), rfl⟩
      · try (exfalso; omega)
        all_goals (have HF : Hid (allB letterC 1 32 (bts s) = false) := Lib.hid (by rw [Hall.out, decide_eq_false h1]; simp); go_wp2_with fail; go_ret; exact ⟨ret_bool (by first | (rw [HF.out]; done) | (rw [HF.out]; simp; done) | (rw [HF.out]; simp; omega)), rfl⟩)
theorem worthR (s : ByteArray) (w : World) (hs : s.size ≤ 9223372036854775807) :
    Calls Try.prog 100 #[.string s] w fun e w' => e = .returned (.bool (allB quotedC 0 40 (bts s))) ∧ w = w' := by
  have hall : allB quotedC 0 40 (bts s) = (decide (spanL quotedC (bts s) = s.size) && (decide (0 ≤ s.size) && decide (s.size ≤ 40))) := by unfold allB; rw [bts_len]
  have Hall := Lib.hid hall
  clear hall
  go_enter Try.func100, Try.ntmps100
  go_wp2_with fail
  go_loop [6] (fun i => ∃ k : Nat, k ≤ s.size ∧ i = .int .i64 k ∧ spanL quotedC (bts s) = k + spanL quotedC ((bts s).drop k)) (fun i => s.size - (intOf i).toNat)
  case atStart => exact ⟨0, Nat.zero_le _, rfl, by simp⟩
  case round =>
    obtain ⟨k, hk, rfl, hsp⟩ := hrel
    have Hsp := Lib.hid hsp
    clear hsp
    by_cases hlt : k < s.size
    · have hb : s[k].toNat < 256 := s[k].toNat_lt
      cases hp : quotedC (s[k].toNat : Int) with
      | true =>
        have Hd := Lib.hid (spanL_drop_yes (p := quotedC) hlt hp)
        go_wp2_with (go_at_call 111; refine (quotedR _ _).mono ?_; rintro e w' ⟨rfl, rfl⟩)
        go_round
        case rel => exact ⟨k + 1, by omega, by go_num, by rw [Hsp.out, Hd.out]; omega⟩
        case measure => simp [intOf]; omega
      | false =>
        have Hd := Lib.hid (spanL_drop_no (p := quotedC) hlt hp)
        go_wp2_with (go_at_call 111; refine (quotedR _ _).mono ?_; rintro e w' ⟨rfl, rfl⟩)
        go_ret
        exact ⟨ret_bool (by rw [Hall.out, Hsp.out, Hd.out, decide_eq_false (by omega)]; rfl), rfl⟩
    · have Hd : Hid (spanL quotedC (bts s) = s.size) := Lib.hid (by rw [Hsp.out, List.drop_eq_nil_of_le (by rw [bts_len]; omega)]; simp [spanL]; omega)
      by_cases h1 : 0 ≤ s.size
      · by_cases h2 : s.size ≤ 40
        · have HF : Hid (allB quotedC 0 40 (bts s) = true) := Lib.hid (by rw [Hall.out, Hd.out, decide_eq_true h1, decide_eq_true h2]; simp)
          go_wp2_with fail
          go_ret
          exact ⟨ret_bool (by first | (rw [HF.out]; done) | (rw [HF.out]; simp; done) | (rw [HF.out]; simp; omega)), rfl⟩
        · have HF : Hid (allB quotedC 0 40 (bts s) = false) := Lib.hid (by rw [Hall.out, decide_eq_false h2]; simp)
          go_wp2_with fail
          go_ret
          exact ⟨ret_bool (by first | (rw [HF.out]; done) | (rw [HF.out]; simp; done) | (rw [HF.out]; simp; omega)), rfl⟩
      · try (exfalso; omega)
        all_goals (have HF : Hid (allB quotedC 0 40 (bts s) = false) := Lib.hid (by rw [Hall.out, decide_eq_false h1]; simp); go_wp2_with fail; go_ret; exact ⟨ret_bool (by first | (rw [HF.out]; done) | (rw [HF.out]; simp; done) | (rw [HF.out]; simp; omega)), rfl⟩)

/-- What stands for a kind without a text. -/
def signR (k : Int) : List UInt8 := ((signs.find? (fun x => decide (x.1 = k))).map (·.2)).getD []
theorem signR_no {k : Int} (h : k < 4 ∨ 11 < k) : signR k = [] := by
  unfold signR
  rw [List.find?_eq_none.2 (fun x hx => by
    have : ∀ x ∈ signs, 4 ≤ x.1 ∧ x.1 ≤ 11 := by decide
    have := this x hx
    simp; omega)]
  rfl
theorem sign_any (k : Int) (w : World) : Calls Try.prog 74 #[.int .i64 k] w fun e w' => e = .returned (.string (txt (signR k))) ∧ Ext w w' := by
  by_cases h : k < 4 ∨ 11 < k
  · rw [signR_no h]
    rcases h with h | h
    all_goals
      go_enter Try.func74, Try.ntmps74
      go_wp2_with fail
      go_ret
      exact ⟨rfl, (by repeat (first | exact Ext.refl _ | with_reducible assumption | with_reducible refine Ext.alloc_of ?_ _ | with_reducible refine Ext.drewN_of ?_ _ | with_reducible refine Ext.drew_of ?_ | (with_reducible refine Ext.set_of ?_ ?hsz _; case hsz => ((first | exact Nat.le_refl _ | omega | (simp; omega)))) | with_reducible refine Ext.via (by assumption) ?_))⟩
  · have hk : k = 4 ∨ k = 5 ∨ k = 6 ∨ k = 7 ∨ k = 8 ∨ k = 9 ∨ k = 10 ∨ k = 11 := by omega
    clear h
    rcases hk with rfl | rfl | rfl | rfl | rfl | rfl | rfl | rfl
    all_goals
      go_enter Try.func74, Try.ntmps74
      go_wp2_with fail
      go_ret
      exact ⟨rfl, (by repeat (first | exact Ext.refl _ | with_reducible assumption | with_reducible refine Ext.alloc_of ?_ _ | with_reducible refine Ext.drewN_of ?_ _ | with_reducible refine Ext.drew_of ?_ | (with_reducible refine Ext.set_of ?_ ?hsz _; case hsz => ((first | exact Nat.le_refl _ | omega | (simp; omega)))) | with_reducible refine Ext.via (by assumption) ?_))⟩
end Go.Proofs.Ytngnplghjaojhaa

/- The reference's Stands and Right. -/
namespace Go.Proofs.Ytngnplghjaojhaa
set_option maxRecDepth 100000
set_option maxHeartbeats 2000000
set_option linter.unusedVariables false
set_option linter.unusedSimpArgs false
open Go.RowKit

theorem standsL_signR {k : Int} (h1 : k ≠ 1) (h2 : k ≠ 2) (h3 : k ≠ 3) (l : List UInt8) : standsL k l = signR k := by unfold standsL signR; rw [if_neg h1, if_neg h2, if_neg h3]
theorem refStands_any (t : Tk) (w : World) (hs : t.text.size ≤ 9223372036854775800) :
    Calls Try.prog 76 #[tkV t] w fun e w' => e = .returned (.string (txt t.stands)) ∧ Ext w w' := by
  obtain ⟨tk, tt, ta⟩ := t
  by_cases h1 : tk = 1
  · subst h1
    unfold tkV Tk.stands
    dsimp only at *
    go_enter Try.func76, Try.ntmps76
    go_wp2
    go_ret
    exact ⟨by simp [standsL, txt_bts], (by repeat (first | exact Ext.refl _ | with_reducible assumption | with_reducible refine Ext.alloc_of ?_ _ | with_reducible refine Ext.drewN_of ?_ _ | with_reducible refine Ext.drew_of ?_ | (with_reducible refine Ext.set_of ?_ ?hsz _; case hsz => ((first | exact Nat.le_refl _ | omega | (simp; omega)))) | with_reducible refine Ext.via (by assumption) ?_))⟩
  by_cases h2 : tk = 2
  · subst h2
    unfold tkV Tk.stands
    dsimp only at *
    go_enter Try.func76, Try.ntmps76
    go_wp2
    go_ret
    exact ⟨by
      have e : txt (standsL 2 (bts tt)) = (⟨#[64]⟩ : ByteArray) ++ tt := bts_inj (by rw [bts_txt, bts_append]; rfl)
      rw [e]; rfl, (by repeat (first | exact Ext.refl _ | with_reducible assumption | with_reducible refine Ext.alloc_of ?_ _ | with_reducible refine Ext.drewN_of ?_ _ | with_reducible refine Ext.drew_of ?_ | (with_reducible refine Ext.set_of ?_ ?hsz _; case hsz => ((first | exact Nat.le_refl _ | omega | (simp; omega)))) | with_reducible refine Ext.via (by assumption) ?_))⟩
  by_cases h3 : tk = 3
  · subst h3
    unfold tkV Tk.stands
    dsimp only at *
    go_enter Try.func76, Try.ntmps76
    go_wp2
    go_ret
    exact ⟨by
      have e : txt (standsL 3 (bts tt)) = (⟨#[34]⟩ : ByteArray) ++ tt ++ ⟨#[34]⟩ := bts_inj (by rw [bts_txt, bts_append, bts_append]; rfl)
      rw [e]; rfl, (by repeat (first | exact Ext.refl _ | with_reducible assumption | with_reducible refine Ext.alloc_of ?_ _ | with_reducible refine Ext.drewN_of ?_ _ | with_reducible refine Ext.drew_of ?_ | (with_reducible refine Ext.set_of ?_ ?hsz _; case hsz => ((first | exact Nat.le_refl _ | omega | (simp; omega)))) | with_reducible refine Ext.via (by assumption) ?_))⟩
  · unfold tkV Tk.stands
    dsimp only at *
    rw [standsL_signR h1 h2 h3]
    have d1 : (tk == 1) = false := by simpa using h1
    have d2 : (tk == 2) = false := by simpa using h2
    have d3 : (tk == 3) = false := by simpa using h3
    clear h1 h2 h3
    go_enter Try.func76, Try.ntmps76
    go_wp2_with fail
    refine (sign_any _ _).mono ?_
    rintro e w2 ⟨rfl, hx2⟩
    go_wp2
    go_ret
    exact ⟨rfl, (by repeat (first | exact Ext.refl _ | with_reducible assumption | with_reducible refine Ext.alloc_of ?_ _ | with_reducible refine Ext.drewN_of ?_ _ | with_reducible refine Ext.drew_of ?_ | (with_reducible refine Ext.set_of ?_ ?hsz _; case hsz => ((first | exact Nat.le_refl _ | omega | (simp; omega)))) | with_reducible refine Ext.via (by assumption) ?_))⟩

/-- The reference: may a token be? -/
def rightB (k : Int) (l : List UInt8) (at_ : Int) : Bool :=
  if at_ < 0 then false else if k = 1 ∨ k = 2 then allB letterC 1 32 l else if k = 3 then allB quotedC 0 40 l else decide (4 ≤ k ∧ k ≤ 11 ∧ l = [])
theorem right_any (t : Tk) (w : World) (hs : t.text.size ≤ 9223372036854775800) :
    Calls Try.prog 75 #[tkV t] w fun e w' => e = .returned (.bool (rightB t.kind (bts t.text) t.at_)) ∧ Ext w w' := by
  obtain ⟨tk, tt, ta⟩ := t
  unfold tkV
  dsimp only at *
  have hwo := wordR tt
  have hwh := worthR tt
  by_cases h0 : ta < 0
  · have HF : Hid (rightB tk (bts tt) ta = false) := Lib.hid (by unfold rightB; rw [if_pos h0])
    clear hwo hwh
    go_enter Try.func75, Try.ntmps75
    go_wp2_with fail
    go_ret
    exact ⟨ret_bool HF.out.symm, (by repeat (first | exact Ext.refl _ | with_reducible assumption | with_reducible refine Ext.alloc_of ?_ _ | with_reducible refine Ext.drewN_of ?_ _ | with_reducible refine Ext.drew_of ?_ | (with_reducible refine Ext.set_of ?_ ?hsz _; case hsz => ((first | exact Nat.le_refl _ | omega | (simp; omega)))) | with_reducible refine Ext.via (by assumption) ?_))⟩
  by_cases h1 : tk = 1 ∨ tk = 2
  · have HF : Hid (rightB tk (bts tt) ta = allB letterC 1 32 (bts tt)) := Lib.hid (by unfold rightB; rw [if_neg h0, if_pos h1])
    generalize allB letterC 1 32 (bts tt) = r at *
    generalize rightB tk (bts tt) ta = R at *
    have HW := Lib.hid hwo
    clear hwo hwh
    rcases h1 with rfl | rfl
    all_goals
      go_enter Try.func75, Try.ntmps75
      go_wp2_with fail
      refine (HW.out _ (by omega)).mono ?_
      rintro e w2 ⟨rfl, rfl⟩
      go_wp2
      go_ret
      exact ⟨ret_bool HF.out.symm, (by repeat (first | exact Ext.refl _ | with_reducible assumption | with_reducible refine Ext.alloc_of ?_ _ | with_reducible refine Ext.drewN_of ?_ _ | with_reducible refine Ext.drew_of ?_ | (with_reducible refine Ext.set_of ?_ ?hsz _; case hsz => ((first | exact Nat.le_refl _ | omega | (simp; omega)))) | with_reducible refine Ext.via (by assumption) ?_))⟩
  by_cases h3 : tk = 3
  · have HF : Hid (rightB tk (bts tt) ta = allB quotedC 0 40 (bts tt)) := Lib.hid (by unfold rightB; rw [if_neg h0, if_neg h1, if_pos h3])
    generalize allB quotedC 0 40 (bts tt) = r at *
    generalize rightB tk (bts tt) ta = R at *
    have HW := Lib.hid hwh
    clear hwo hwh
    subst h3
    go_enter Try.func75, Try.ntmps75
    go_wp2_with fail
    refine (HW.out _ (by omega)).mono ?_
    rintro e w2 ⟨rfl, rfl⟩
    go_wp2
    go_ret
    exact ⟨ret_bool HF.out.symm, (by repeat (first | exact Ext.refl _ | with_reducible assumption | with_reducible refine Ext.alloc_of ?_ _ | with_reducible refine Ext.drewN_of ?_ _ | with_reducible refine Ext.drew_of ?_ | (with_reducible refine Ext.set_of ?_ ?hsz _; case hsz => ((first | exact Nat.le_refl _ | omega | (simp; omega)))) | with_reducible refine Ext.via (by assumption) ?_))⟩
  · have HF : Hid (rightB tk (bts tt) ta = decide (4 ≤ tk ∧ tk ≤ 11 ∧ bts tt = [])) := Lib.hid (by unfold rightB; rw [if_neg h0, if_neg h1, if_neg h3])
    have d1 : (tk == 1) = false := by simp; omega
    have d2 : (tk == 2) = false := by simp; omega
    have d3 : (tk == 3) = false := by simpa using h3
    clear hwo hwh h1 h3
    have he : tt.toList.isEmpty = decide (bts tt = []) := by
      rw [ByteArray.toList_eq]; change (bts tt).isEmpty = _
      cases bts tt <;> simp
    by_cases h4 : 4 ≤ tk
    · by_cases h11 : tk ≤ 11
      · cases he2 : decide (bts tt = []) with
        | true =>
          rw [he2] at he
          have HG : Hid (rightB tk (bts tt) ta = true) := Lib.hid (by rw [HF.out]; exact decide_eq_true ⟨h4, h11, of_decide_eq_true he2⟩)
          clear HF he2
          go_enter Try.func75, Try.ntmps75
          go_wp2_with fail
          go_ret
          exact ⟨ret_bool HG.out.symm, (by repeat (first | exact Ext.refl _ | with_reducible assumption | with_reducible refine Ext.alloc_of ?_ _ | with_reducible refine Ext.drewN_of ?_ _ | with_reducible refine Ext.drew_of ?_ | (with_reducible refine Ext.set_of ?_ ?hsz _; case hsz => ((first | exact Nat.le_refl _ | omega | (simp; omega)))) | with_reducible refine Ext.via (by assumption) ?_))⟩
        | false =>
          rw [he2] at he
          have HG : Hid (rightB tk (bts tt) ta = false) := Lib.hid (by rw [HF.out]; exact decide_eq_false (fun h => by have := of_decide_eq_false he2; exact this h.2.2))
          clear HF he2
          go_enter Try.func75, Try.ntmps75
          go_wp2_with fail
          go_ret
          exact ⟨ret_bool HG.out.symm, (by repeat (first | exact Ext.refl _ | with_reducible assumption | with_reducible refine Ext.alloc_of ?_ _ | with_reducible refine Ext.drewN_of ?_ _ | with_reducible refine Ext.drew_of ?_ | (with_reducible refine Ext.set_of ?_ ?hsz _; case hsz => ((first | exact Nat.le_refl _ | omega | (simp; omega)))) | with_reducible refine Ext.via (by assumption) ?_))⟩
      · have HG : Hid (rightB tk (bts tt) ta = false) := Lib.hid (by rw [HF.out]; exact decide_eq_false (fun h => h11 h.2.1))
        clear HF he
        go_enter Try.func75, Try.ntmps75
        go_wp2_with fail
        go_ret
        exact ⟨ret_bool HG.out.symm, (by repeat (first | exact Ext.refl _ | with_reducible assumption | with_reducible refine Ext.alloc_of ?_ _ | with_reducible refine Ext.drewN_of ?_ _ | with_reducible refine Ext.drew_of ?_ | (with_reducible refine Ext.set_of ?_ ?hsz _; case hsz => ((first | exact Nat.le_refl _ | omega | (simp; omega)))) | with_reducible refine Ext.via (by assumption) ?_))⟩
    · have HG : Hid (rightB tk (bts tt) ta = false) := Lib.hid (by rw [HF.out]; exact decide_eq_false (fun h => h4 h.1))
      clear HF he
      go_enter Try.func75, Try.ntmps75
      go_wp2_with fail
      go_ret
      exact ⟨ret_bool HG.out.symm, (by repeat (first | exact Ext.refl _ | with_reducible assumption | with_reducible refine Ext.alloc_of ?_ _ | with_reducible refine Ext.drewN_of ?_ _ | with_reducible refine Ext.drew_of ?_ | (with_reducible refine Ext.set_of ?_ ?hsz _; case hsz => ((first | exact Nat.le_refl _ | omega | (simp; omega)))) | with_reducible refine Ext.via (by assumption) ?_))⟩
end Go.Proofs.Ytngnplghjaojhaa

/- The reference's Begin: the token that it takes a text to begin with. -/
namespace Go.Proofs.Ytngnplghjaojhaa
set_option maxRecDepth 100000
set_option maxHeartbeats 2000000
set_option linter.unusedVariables false
set_option linter.unusedSimpArgs false
open Go.RowKit

/-- The reference's Begin has its candidate in a box. -/
structure CandAt (w : World) (k : Int) (l : List UInt8) (W : World) : Prop where
  below : Below w.heap.size w W
  res : RowAt W w.heap.size 39 [.int .i64 0, .string ⟨#[]⟩, .int .i64 0]
  box : RowAt W (w.heap.size + 1) 39 [.int .i64 k, .string (txt l), .int .i64 0]
theorem CandAt.new (w : World) : CandAt w 0 [] ((w.alloc (.cells #[.int .i64 0, .string ⟨#[]⟩, .int .i64 0] 39)).alloc (.cells #[.int .i64 0, .string ⟨#[]⟩, .int .i64 0] 39)) :=
  ⟨(show Ext w _ from (by repeat (first | exact Ext.refl _ | with_reducible assumption | with_reducible refine Ext.alloc_of ?_ _ | with_reducible refine Ext.drewN_of ?_ _ | with_reducible refine Ext.drew_of ?_ | (with_reducible refine Ext.set_of ?_ ?hsz _; case hsz => ((first | exact Nat.le_refl _ | omega | (simp; omega)))) | with_reducible refine Ext.via (by assumption) ?_))), (RowAt.new w _ [.int .i64 0, .string ⟨#[]⟩, .int .i64 0]).ext (Ext.alloc _ _), row_at (by simp)⟩
theorem CandAt.ext {w W W' : World} {k : Int} {l : List UInt8} (h : CandAt w k l W) (hx : Ext W W') : CandAt w k l W' := ⟨Below.ext h.below hx h.below.size, h.res.ext hx, h.box.ext hx⟩
theorem CandAt.set {w W : World} {k : Int} {l : List UInt8} (h : CandAt w k l W) (k' : Int) (l' : List UInt8) : CandAt w k' l' (((W.setCell ⟨w.heap.size + 1, 0, none⟩ (.int .i64 k')).setCell ⟨w.heap.size + 1, 1, none⟩ (.string (txt l'))).setCell ⟨w.heap.size + 1, 2, none⟩ (.int .i64 0)) :=
  ⟨((h.below.setCell (p := ⟨w.heap.size + 1, 0, none⟩) (Nat.le_succ _) _).setCell (p := ⟨w.heap.size + 1, 1, none⟩) (Nat.le_succ _) _).setCell (p := ⟨w.heap.size + 1, 2, none⟩) (Nat.le_succ _) _,
    ((h.res.kept (grown_set _ _ 0 _) (fun e => by have := Option.some.inj e; omega)).kept (grown_set _ _ 1 _) (fun e => by have := Option.some.inj e; omega)).kept (grown_set _ _ 2 _) (fun e => by have := Option.some.inj e; omega),
    ((h.box.set 0 _).set 1 _).set 2 _⟩

/-- The reference's token that a text begins with. -/
def begR (l : List UInt8) : Beg := if rightB (candR l).1 (candR l).2 0 && (standsL (candR l).1 (candR l).2).isPrefixOf l then ((candR l).1, (candR l).2, (standsL (candR l).1 (candR l).2).length) else begNo
theorem refBegin_any (s : ByteArray) (w : World) (hs : s.size ≤ 1000000) (c : UInt8) (r : List UInt8) (hcr : bts s = c :: r) :
    Calls Try.prog 49 #[.string s] w fun e w' => e = .returned (begV (begR (bts s))) ∧ Ext w w' := by
  have hpos : 0 < s.size := by rw [← bts_len, hcr]; simp
  have hne : s.toList.isEmpty = false := by rw [ByteArray.toList_eq]; change (bts s).isEmpty = false; rw [hcr]; rfl
  have hc0 : s[0] = c := by have := bts_drop s 0 hpos; rw [List.drop_zero, hcr] at this; simpa using this.symm
  have hsz : s.size = r.length + 1 := by rw [← bts_len, hcr]; simp
  have hcand : candR (bts s) = candR (c :: r) := by rw [hcr]
  have Hcr := Lib.hid hcr
  have Hcand := Lib.hid hcand
  have hN := CandAt.new w
  have HC0 := Lib.hid hc0
  have Hsz := Lib.hid hsz
  clear hcr hcand hc0 hsz
  go_enter Try.func49, Try.ntmps49
  go_upto_block 0 with (fail)
  generalize (w.alloc (.cells #[.int .i64 0, .string ⟨#[]⟩, .int .i64 0] 39)).alloc (.cells #[.int .i64 0, .string ⟨#[]⟩, .int .i64 0] 39) = w1 at *
  go_cut [3] (fun s3 wx => s3 = .int .i64 0 ∧ ∃ k l, candR (bts s) = (k, l) ∧ CandAt w k l wx)
  case first =>
    have HN := Lib.hid hN
    obtain ⟨d0, d1, d2, g0, g1, g2⟩ := hN.box.facts3
    clear hN
    cases hl : letterC (s[0].toNat : Int) with
    | true =>
      have hsp := spanL_le letterC (bts s)
      rw [bts_len] at hsp
      have hL := Lib.hid hl
      clear hl
      go_wp2_with fail
      refine (letterR _ _).mono ?_
      rintro e w' ⟨rfl, rfl⟩
      rw [hL.out]
      go_wp2_with fail
      refine (run_any s _ (by omega)).mono ?_
      rintro e w' ⟨rfl, rfl⟩
      go_wp2_with fail
      go_meet
      refine ⟨rfl, 1, _, ?_, by rw [extract_txt, List.drop_zero, Nat.sub_zero]; exact HN.out.set 1 _⟩
      have h := hL.out
      rw [HC0.out] at h
      rw [Hcand.out, candR_word h, Hcr.out]
    | false =>
      have hL := Lib.hid hl
      clear hl
      go_wp2_with fail
      refine (letterR _ _).mono ?_
      rintro e w' ⟨rfl, rfl⟩
      rw [hL.out]
      have hb : s[0].toNat < 256 := s[0].toNat_lt
      have hlc : letterC c.toNat = false := by have h := hL.out; rwa [HC0.out] at h
      have Hlc := Lib.hid hlc
      clear hlc
      by_cases h64 : s[0].toNat = 64
      · have h64' : c = 64 := by rw [← HC0.out]; exact UInt8.toNat_inj.1 h64
        have H64 := Lib.hid h64'
        have d64 : ((s[0].toNat : Int) == 64) = true := by simp [h64]
        have hrr : bts (s.extract 1 s.size) = r := by rw [bts_extract, Hcr.out, Hsz.out]; simp
        have hrun := run_any (s.extract 1 s.size)
        rw [hrr] at hrun
        have hsp := spanL_le letterC r
        have hss : r.length + 1 = s.size := Hsz.out.symm
        have HR := Lib.hid hrun
        clear h64 h64' hrr hrun
        go_wp2_with fail
        refine (HR.out _ (by simp; omega)).mono ?_
        rintro e w' ⟨rfl, rfl⟩
        go_wp2_with fail
        go_meet
        refine ⟨rfl, 2, r.take (spanL letterC r), by rw [Hcand.out, candR_key Hlc.out H64.out], ?_⟩
        have e : s.extract 1 (1 + spanL letterC r) = txt (r.take (spanL letterC r)) := by rw [extract_txt, Hcr.out]; simp
        rw [e]; exact HN.out.set 2 _
      · have d64 : ((s[0].toNat : Int) == 64) = false := by simp; omega
        have H64 : Hid (c ≠ 64) := Lib.hid (fun e => h64 (by rw [HC0.out, e]; rfl))
        clear h64
        by_cases h34 : s[0].toNat = 34
        · have h34' : c = 34 := by rw [← HC0.out]; exact UInt8.toNat_inj.1 h34
          have H34 := Lib.hid h34'
          have d34 : ((s[0].toNat : Int) == 34) = true := by simp [h34]
          have hdr : r = (bts s).drop 1 := by rw [Hcr.out]; rfl
          have Hdr := Lib.hid hdr
          have hst : spanL (fun x => decide (x ≠ 34)) r + 1 = 1 + spanL (fun x => decide (x ≠ 34)) ((bts s).drop 1) := by rw [hdr]; omega
          have Hst := Lib.hid hst
          clear h34 h34' hdr hst
          go_wp2_with fail
          go_loop [5] (fun i => ∃ k : Nat, 1 ≤ k ∧ k ≤ s.size ∧ i = .int .i64 k ∧ spanL (fun x => decide (x ≠ 34)) r + 1 = k + spanL (fun x => decide (x ≠ 34)) ((bts s).drop k)) (fun i => s.size - (intOf i).toNat)
          case atStart => exact ⟨1, Nat.le_refl _, hpos, rfl, Hst.out⟩
          case round =>
            obtain ⟨k, hk1, hk, rfl, hsp⟩ := hrel
            have Hsp := Lib.hid hsp
            clear hsp
            by_cases hlt : k < s.size
            · have hbk : s[k].toNat < 256 := s[k].toNat_lt
              by_cases hp : s[k].toNat = 34
              · have dp : ((s[k].toNat : Int) != 34) = false := by simp; omega
                have Hd := Lib.hid (spanL_drop_no (p := (fun x => decide (x ≠ 34))) hlt (by simp [hp]))
                clear hp
                go_wp2_with fail
                go_meet
                refine ⟨rfl, 3, r.take (k - 1), ?_, ?_⟩
                · rw [Hcand.out, candR_text Hlc.out (by rw [H34.out]; decide) H34.out]
                  have h := Hsp.out
                  rw [Hd.out] at h
                  rw [show spanL (fun x => decide (x ≠ 34)) r = k - 1 from by omega]
                · have e : s.extract 1 k = txt (r.take (k - 1)) := by rw [extract_txt, Hcr.out]; rfl
                  rw [e]; exact HN.out.set 3 _
              · have dp : ((s[k].toNat : Int) != 34) = true := by simp; omega
                have Hd := Lib.hid (spanL_drop_yes (p := (fun x => decide (x ≠ 34))) hlt (by simp; omega))
                clear hp
                go_wp2_with fail
                go_round
                case rel => exact ⟨k + 1, by omega, by omega, by go_num, by rw [Hsp.out, Hd.out]; omega⟩
                case measure => simp [intOf]; omega
            · have Hd : Hid (spanL (fun x => decide (x ≠ 34)) ((bts s).drop k) = 0) := Lib.hid (by rw [List.drop_eq_nil_of_le (by rw [bts_len]; omega)]; rfl)
              go_wp2_with fail
              go_meet
              refine ⟨rfl, 3, r.take (k - 1), ?_, ?_⟩
              · rw [Hcand.out, candR_text Hlc.out (by rw [H34.out]; decide) H34.out]
                have h := Hsp.out
                rw [Hd.out] at h
                rw [show spanL (fun x => decide (x ≠ 34)) r = k - 1 from by omega]
              · have e : s.extract 1 k = txt (r.take (k - 1)) := by rw [extract_txt, Hcr.out]; rfl
                rw [e]; exact HN.out.set 3 _
        · have d34 : ((s[0].toNat : Int) == 34) = false := by simp; omega
          have H34 : Hid (c ≠ 34) := Lib.hid (fun e => h34 (by rw [HC0.out, e]; rfl))
          clear h34 d0 d1 d2 g0 g1 g2
          have HU : Hid (CandAt w (uptoR 4 (bts s)) [] w1) := Lib.hid (by rw [uptoR_first]; exact HN.out)
          go_wp2_with fail
          go_loopg [6] 8 (fun g i wr => ∃ k : Int, 4 ≤ k ∧ k ≤ 12 ∧ g = (12 - k).toNat ∧ i = .int .i64 k ∧ CandAt w (uptoR k (bts s)) [] wr)
          case atStart => exact ⟨4, by omega, by omega, rfl, rfl, HU.out⟩
          case round =>
            obtain ⟨k, hk1, hk2, hg, rfl, hC⟩ := hrel
            have Hg := Lib.hid hg
            clear hg
            by_cases hlt : k ≤ 11
            · obtain ⟨x, hx, hsx⟩ := sign_in hk1 hlt
              have hsx : signR k = x := hsx
              have HS := Lib.hid hsx
              have HX := Lib.hid hx
              have HC := Lib.hid hC
              clear hsx hx hC
              go_wp2_with fail
              refine (sign_any k _).mono ?_
              rintro e w2 ⟨rfl, hx2⟩
              rw [HS.out]
              have hC2 := HC.out.ext hx2
              obtain ⟨d0, d1, d2, g0, g1, g2⟩ := hC2.box.facts3
              have HC2 := Lib.hid hC2
              clear hC2
              go_wp2_with fail
              refine (startsR s _ _ (by omega)).mono ?_
              rintro e w' ⟨rfl, rfl⟩
              rw [bts_txt]
              cases hp : x.isPrefixOf (bts s) with
              | true =>
                have HF := Lib.hid (uptoR_yes HX.out hp)
                clear hp
                go_wp2_with fail
                go_roundg (12 - (k + 1)).toNat
                case measure => have := Hg.out; omega
                case rel => exact ⟨k + 1, by omega, by omega, rfl, rfl, by rw [HF.out]; exact HC2.out.set k []⟩
              | false =>
                have HF := Lib.hid (uptoR_no HX.out hp)
                clear hp
                go_wp2_with fail
                go_roundg (12 - (k + 1)).toNat
                case measure => have := Hg.out; omega
                case rel => exact ⟨k + 1, by omega, by omega, rfl, rfl, by rw [HF.out]; exact HC2.out⟩
            · obtain rfl : k = 12 := by omega
              have HC := Lib.hid hC
              clear hC
              go_wp2_with fail
              go_meet
              exact ⟨rfl, _, _, by rw [Hcand.out, candR_sign Hlc.out H64.out H34.out, Hcr.out], HC.out⟩
  case rest =>
    obtain ⟨rfl, k, l, hkl, hC⟩ := hcut
    have hll := candR_len (bts s)
    rw [hkl, bts_len] at hll
    dsimp only at hll
    have hbR : begR (bts s) = if rightB k l 0 && (standsL k l).isPrefixOf (bts s) then (k, l, (standsL k l).length) else begNo := by unfold begR; rw [hkl]
    have hri := right_any ⟨k, txt l, 0⟩
    have hst := refStands_any ⟨k, txt l, 0⟩
    unfold Tk.stands tkV at hst
    unfold tkV at hri
    dsimp only at hri hst
    rw [bts_txt] at hri hst
    have hsl := standsL_len k l
    have hts : (txt l).size ≤ 9223372036854775800 := by rw [txt_size]; omega
    generalize standsL k l = S at *
    obtain ⟨b0, b1, b2, e0, e1, e2⟩ := hC.box.facts3
    obtain ⟨r0, r1, r2, f0, f1, f2⟩ := hC.res.facts3
    have HB := Lib.hid hbR
    have HRI := Lib.hid hri
    have HST := Lib.hid hst
    have HC := Lib.hid hC
    clear hkl hbR hri hst hC HC0 Hsz Hcr Hcand hN hpos hne
    cases hr : rightB k l 0 with
    | false =>
      have HF : Hid (begR (bts s) = begNo) := Lib.hid (by rw [HB.out, hr]; rfl)
      have Hr := Lib.hid hr
      clear hr
      go_wp2_with fail
      refine (HRI.out _ hts).mono ?_
      rintro e w2 ⟨rfl, hx2⟩
      rw [Hr.out]
      obtain ⟨b0, b1, b2, e0, e1, e2⟩ := (HC.out.box.ext hx2).facts3
      obtain ⟨r0, r1, r2, f0, f1, f2⟩ := (HC.out.res.ext hx2).facts3
      have hB2 := Lib.hid (HC.out.ext hx2).below
      go_wp2_with fail
      exact bodyPost_ret (v := begV begNo) (by simp [results, Try.results49, go_sem, r0, r1, r2, begV, tokV, begNo, txt]) rfl ⟨by rw [HF.out], ((hB2.out.setCell (p := ⟨w.heap.size, 0, none⟩) (Nat.le_refl _) _).setCell (p := ⟨w.heap.size, 1, none⟩) (Nat.le_refl _) _).setCell (p := ⟨w.heap.size, 2, none⟩) (Nat.le_refl _) _⟩
    | true =>
      cases hp : S.isPrefixOf (bts s) with
      | false =>
        have HF : Hid (begR (bts s) = begNo) := Lib.hid (by rw [HB.out, hr, hp]; rfl)
        have Hr := Lib.hid hr
        have Hp := Lib.hid hp
        clear hr hp
        go_wp2_with fail
        refine (HRI.out _ hts).mono ?_
        rintro e w2a ⟨rfl, hx2a⟩
        rw [Hr.out]
        obtain ⟨b0, b1, b2, e0, e1, e2⟩ := (HC.out.box.ext hx2a).facts3
        go_wp2_with fail
        refine (HST.out _ hts).mono ?_
        rintro e w2b ⟨rfl, hx2b⟩
        go_wp2_with fail
        refine (startsR s _ _ (by omega)).mono ?_
        rintro e w' ⟨rfl, rfl⟩
        rw [bts_txt, Hp.out]
        have hx2 := hx2a.trans hx2b
        clear hx2a hx2b
        generalize w2b = w2 at *
        obtain ⟨b0, b1, b2, e0, e1, e2⟩ := (HC.out.box.ext hx2).facts3
        obtain ⟨r0, r1, r2, f0, f1, f2⟩ := (HC.out.res.ext hx2).facts3
        have hB2 := Lib.hid (HC.out.ext hx2).below
        go_wp2_with fail
        exact bodyPost_ret (v := begV begNo) (by simp [results, Try.results49, go_sem, r0, r1, r2, begV, tokV, begNo, txt]) rfl ⟨by rw [HF.out], ((hB2.out.setCell (p := ⟨w.heap.size, 0, none⟩) (Nat.le_refl _) _).setCell (p := ⟨w.heap.size, 1, none⟩) (Nat.le_refl _) _).setCell (p := ⟨w.heap.size, 2, none⟩) (Nat.le_refl _) _⟩
      | true =>
        have HF : Hid (begR (bts s) = (k, l, S.length)) := Lib.hid (by rw [HB.out, hr, hp]; rfl)
        have Hr := Lib.hid hr
        have Hp := Lib.hid hp
        clear hr hp
        go_wp2_with fail
        refine (HRI.out _ hts).mono ?_
        rintro e w2a ⟨rfl, hx2a⟩
        rw [Hr.out]
        obtain ⟨b0, b1, b2, e0, e1, e2⟩ := (HC.out.box.ext hx2a).facts3
        go_wp2_with fail
        refine (HST.out _ hts).mono ?_
        rintro e w2b ⟨rfl, hx2b⟩
        go_wp2_with fail
        refine (startsR s _ _ (by omega)).mono ?_
        rintro e w' ⟨rfl, rfl⟩
        rw [bts_txt, Hp.out]
        have hx2 := hx2a.trans hx2b
        clear hx2a hx2b
        generalize w2b = w2 at *
        have HBX := Lib.hid (HC.out.box.ext hx2)
        have HRS := Lib.hid (HC.out.res.ext hx2)
        obtain ⟨b0, b1, b2, e0, e1, e2⟩ := HBX.out.facts3
        obtain ⟨r0, r1, r2, f0, f1, f2⟩ := HRS.out.facts3
        have hB2 := Lib.hid (HC.out.ext hx2).below
        have hlt2 := Lib.hid HRS.out.lt
        go_upto_region 20 with fail
        go_region_with (go_at_call 76; refine (HST.out _ hts).mono ?_; rintro e w5 ⟨rfl, hx5⟩; have hx5' : Ext w2 w5 := Ext.trans (Ext.drewN w2 1) hx5; obtain ⟨b0, b1, b2, e0, e1, e2⟩ := (HBX.out.ext hx5').facts3; obtain ⟨r0, r1, r2, f0, f1, f2⟩ := (HRS.out.ext hx5').facts3)
        all_goals go_wp2
        all_goals exact bodyPost_ret (v := begV (k, l, S.length)) (by simp [results, Try.results49, go_sem, Act.put, r0, r1, r2, begV, tokV, txt, ByteArray.size]) rfl ⟨by rw [HF.out], (((Below.ext hB2.out hx5' hB2.out.size).setCell (p := ⟨w.heap.size, 0, none⟩) (Nat.le_refl _) _).setCell (p := ⟨w.heap.size, 1, none⟩) (Nat.le_refl _) _).setCell (p := ⟨w.heap.size, 2, none⟩) (Nat.le_refl _) _⟩
end Go.Proofs.Ytngnplghjaojhaa
